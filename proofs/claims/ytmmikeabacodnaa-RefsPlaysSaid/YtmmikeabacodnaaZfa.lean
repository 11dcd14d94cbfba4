/- The Go functions as plain functions. -/
import Derived.Test.YtmmikeabacodnaaProg
import Derived.KernelRfl
import Derived.Test.YtmmikeabacodnaaZb
/- The Go functions as plain functions over abstract memory, and what each comes to. -/
namespace Go.Proofs.Ytmmikeabacodnaa
open Go Go.Proofs.Ytmmikeabacodnaa.E
set_option maxRecDepth 100000
set_option linter.unusedVariables false
/-! ### overdub/overdubkeep.Within -/
noncomputable def G7 : FuncId → FunA := fun _ _ _ => none
def A7 : Ann := .two (.leaf) (.two (.two (.leaf) (.two (.two (.leaf) (.leaf)) (.leaf))) (.two (.leaf) (.join [(5, .i .i64)] [] [] (.two (.leaf) (.two (.leaf) (.leaf))) (.two (.leaf) (.leaf)))))
def R7 : Slots := [(4, .i .i64)]
noncomputable def overdubkeep_Within : FunA := denF Try.prog G7 Try.f7 A7 R7
theorem overdubkeep_Within_eq (p0 : Int) (p1 : Int) (μ : AMem) : overdubkeep_Within [.s (.int .i64 p0), .s (.int .i64 p1)] μ =
  bif decide (p1 < 1) then
  (some (.s (.int .i64 0), μ))
  else
  (if p1 = 0 then none else
    (seqJ
      (bif decide ((Int.tmod p0 p1) < 0) then
        (some (.normal, [.s (.int .i64 (IntKind.wrap .i64 ((Int.tmod p0 p1) + p1)))], μ))
        else
        (some (.normal, [.s (.int .i64 (Int.tmod p0 p1))], μ)))
      (fun vs1 m2 =>
        headK vs1 fun a3 r4 =>
        asI .i64 a3 fun n5 =>
        some (.s (.int .i64 n5), m2))
      (fun vs6 m7 =>
        headK vs6 fun a11 r12 =>
        asI .i64 a11 fun n13 =>
        some (.s (.int .i64 n13), m7))
      (fun d10 vs8 m9 =>
        none))) := by kernel_rfl

/-! ### overdub/refs.New -/
noncomputable def G8 : FuncId → FunA := fun _ _ _ => none
def A8 : Ann := .two (.leaf) (.two (.join [(9, .b)] [0] [] (.leaf) (.two (.two (.leaf) (.leaf)) (.leaf))) (.two (.leaf) (.leaf)))
def R8 : Slots := [(2, .s), (3, .i .i64)]
noncomputable def refs_New : FunA := denF Try.prog G8 Try.f8 A8 R8
theorem refs_New_eq (p0 : Int) (μ : AMem) : refs_New [.s (.int .i64 p0)] μ =
  seqJ
  (bif !(decide (p0 < 1)) then
    (some (.normal, [.s (.bool (decide (p0 > 4096)))], μ))
    else
    (some (.normal, [.s (.bool true)], μ)))
  (fun vs1 m2 =>
    headK vs1 fun a3 r4 =>
    asB a3 fun b5 =>
    bif b5 then
    (some (.tuple [.s .nilPtr, .s (.int .i64 1)], m2))
    else
    (if 0 ≤ p0 ∧ p0 ≤ p0 ∧ p0 ≤ 9223372036854775807 ∧ (8 : Nat) * p0 ≤ 140737488355328 then
      (some (.tuple [.s (.ptr (m2.next + 3) 0 0), .s (.int .i64 0)], (((m2.bump 6).set (m2.next + 1) (rowObj (zerosA [.int .i64 0] (Int.toNat p0)) 1 3 (some (Int.toNat p0)))).set (m2.next + 3) (rowObj [.slice (m2.next + 1) 0 0 (Int.toNat p0)] 1 44 (some 1))))) else none))
  (fun vs6 m7 =>
    headK vs6 fun a11 r12 =>
    asS a11 fun x13 =>
    headK r12 fun a14 r15 =>
    asI .i64 a14 fun n16 =>
    some (.tuple [.s x13, .s (.int .i64 n16)], m7))
  (fun d10 vs8 m9 =>
    none) := by kernel_rfl

/-! ### (*overdub/refs.Table).may -/
noncomputable def G19 : FuncId → FunA := fun _ _ _ => none
def A19 : Ann := .two (.leaf) (.two (.leaf) (.leaf))
def R19 : Slots := [(4, .b)]
noncomputable def refs_Table_may : FunA := denF Try.prog G19 Try.f19 A19 R19
theorem refs_Table_may_eq (p0 q0 o0 : Nat) (p1 : Int) (μ : AMem) : refs_Table_may [.s (.ptr p0 q0 o0), .s (.int .i64 p1)] μ =
  bif decide (p1 ≥ 0) then
  ((μ.cell p0 q0 (o0 + 0)).bind fun x1 =>
    (lenS (.s x1)).bind fun l2 =>
    some (.s (.bool (decide (p1 < ((l2 : Nat) : Int)))), μ))
  else
  (some (.s (.bool false), μ)) := by kernel_rfl

/-! ### (*overdub/refs.Table).Add -/
noncomputable def G9 : FuncId → FunA := fun g => bif Nat.beq g 19 then refs_Table_may else fun _ _ => none
theorem G9_19 : G9 19 = refs_Table_may := by kernel_rfl
def A9 : Ann := .two (.leaf) (.two (.two (.leaf) (.join [(0, .s), (1, .s)] [] [] (.loop [(11, .i .i64)] [0, 1, 9, 10] [0] (.two (.leaf) (.two (.two (.leaf) (.leaf)) (.two (.join [(0, .s), (1, .s), (9, .s), (10, .i .i64), (11, .i .i64)] [] [] (.two (.leaf) (.two (.leaf) (.two (.two (.leaf) (.leaf)) (.leaf)))) .leaf) (.leaf))))) .leaf)) (.two (.two (.leaf) (.join [] [] [] (.loop [(22, .i .i64)] [0, 20, 21] [2] (.two (.leaf) (.two (.two (.leaf) (.leaf)) (.two (.join [(0, .s), (20, .s), (21, .i .i64), (22, .i .i64)] [] [] (.two (.leaf) (.leaf)) .leaf) (.leaf))))) .leaf)) (.two (.leaf) (.leaf))))
def R9 : Slots := [(4, .b)]
noncomputable def refs_Table_Add : FunA := denF Try.prog G9 Try.f9 A9 R9
noncomputable def refs_Table_Add_L2_B (os vs : List AV) (μ : AMem) : Option Res := joinK [(22, .i .i64)] vs (envO [0, 20, 21] os) fun e => den Try.prog G9 Try.f9.ntmps (cL (cL (cR (cL (cR (cR (bodyOf Try.f9))))))) (aL (aL (aR (aL (aR (aR A9)))))) { ret := R9, exits := [(2, [])] } Res e μ fun ex e μ => some (ex, valsOf (Lv.at { ret := R9, exits := [(2, [])] } [(22, .i .i64)] ex) e, μ)
noncomputable def refs_Table_Add_L2 (os vs : List AV) (μ : AMem) : Option Res := loopA (refs_Table_Add_L2_B os) vs μ
noncomputable def refs_Table_Add_L1_B (os vs : List AV) (μ : AMem) : Option Res := joinK [(11, .i .i64)] vs (envO [0, 1, 9, 10] os) fun e => den Try.prog G9 Try.f9.ntmps (cL (cL (cR (cL (cR (bodyOf Try.f9)))))) (aL (aL (aR (aL (aR A9))))) { ret := R9, exits := [(0, [(0, .s), (1, .s)])] } Res e μ fun ex e μ => some (ex, valsOf (Lv.at { ret := R9, exits := [(0, [(0, .s), (1, .s)])] } [(11, .i .i64)] ex) e, μ)
noncomputable def refs_Table_Add_L1 (os vs : List AV) (μ : AMem) : Option Res := loopA (refs_Table_Add_L1_B os) vs μ
theorem refs_Table_Add_L2_B_eq (s0 : SV) (s20 : SV) (s21 : Int) (s22 : Int) (μ : AMem) : refs_Table_Add_L2_B [.s s0, .s s20, .s (.int .i64 s21)] [.s (.int .i64 s22)] μ =
  bif decide (s22 < s21) then
  (indS 1 (.s s20) s22 fun p30 =>
    loadAt μ p30 fun v31 =>
    asI .i64 v31 fun n32 =>
    nonNil (.s s0)
    (ptrAdd 0 (.s s0) fun p33 =>
      loadAt μ p33 fun v34 =>
      asS v34 fun x35 =>
      indS 1 (.s x35) n32 fun p36 =>
      loadAt μ p36 fun v37 =>
      asI .i64 v37 fun n38 =>
      indS 1 (.s x35) n32 fun p39 =>
      storeAt 1 μ p39 (.s (.int .i64 (IntKind.wrap .i64 (n38 + 1)))) fun m40 =>
      some (.normal, [.s (.int .i64 (IntKind.wrap .i64 (s22 + 1)))], m40)))
  else
  (some (.exit 2, [], μ)) := by kernel_rfl
theorem refs_Table_Add_L2_eq (os vs : List AV) (μ : AMem) : refs_Table_Add_L2 os vs μ = (refs_Table_Add_L2_B os vs μ).bind fun r => match r.1 with | .normal => refs_Table_Add_L2 os r.2.1 r.2.2 | _ => some r := loopA_eq _ _ _
theorem refs_Table_Add_L1_B_eq (s0 t0 u0 : Nat) (s1 : SV) (s9 : SV) (s10 : Int) (s11 : Int) (μ : AMem) : refs_Table_Add_L1_B [.s (.ptr s0 t0 u0), .s s1, .s s9, .s (.int .i64 s10)] [.s (.int .i64 s11)] μ =
  bif decide (s11 < s10) then
  (indS 1 (.s s9) s11 fun p25 =>
    loadAt μ p25 fun v26 =>
    asI .i64 v26 fun n27 =>
    (refs_Table_may [.s (.ptr s0 t0 u0), .s (.int .i64 n27)] μ).bind fun r28 =>
    asB r28.1 fun b29 =>
    bif (!b29) then
    (some (.ret, [.s (.bool false)], r28.2))
    else
    (some (.normal, [.s (.int .i64 (IntKind.wrap .i64 (s11 + 1)))], r28.2)))
  else
  (some (.exit 0, [.s (.ptr s0 t0 u0), .s s1], μ)) := by rw [← G9_19]; kernel_rfl
theorem refs_Table_Add_L1_eq (os vs : List AV) (μ : AMem) : refs_Table_Add_L1 os vs μ = (refs_Table_Add_L1_B os vs μ).bind fun r => match r.1 with | .normal => refs_Table_Add_L1 os r.2.1 r.2.2 | _ => some r := loopA_eq _ _ _
theorem refs_Table_Add_eq (p0 q0 o0 : Nat) (p1 : SV) (μ : AMem) : refs_Table_Add [.s (.ptr p0 q0 o0), .s p1] μ =
  (lenS (.s p1)).bind fun l1 =>
  seqJ (refs_Table_Add_L1 [.s (.ptr p0 q0 o0), .s p1, .s p1, .s (.int .i64 ((l1 : Nat) : Int))] [.s (.int .i64 0)] μ)
  (fun _ _ => none)
  (fun vs2 m3 =>
    headK vs2 fun a7 r8 =>
    asB a7 fun b9 =>
    some (.s (.bool b9), m3))
  (fun d6 vs4 m5 =>
    bif Nat.beq 0 d6 then (headK vs4 fun a10 r11 =>
      asS a10 fun x12 =>
      headK r11 fun a13 r14 =>
      asS a13 fun x15 =>
      (lenS (.s x15)).bind fun l16 =>
      seqJ (refs_Table_Add_L2 [.s x12, .s x15, .s (.int .i64 ((l16 : Nat) : Int))] [.s (.int .i64 0)] m5)
      (fun _ _ => none)
      (fun vs17 m18 =>
        headK vs17 fun a22 r23 =>
        asB a22 fun b24 =>
        some (.s (.bool b24), m18))
      (fun d21 vs19 m20 =>
        bif Nat.beq 2 d21 then (some (.s (.bool true), m20)) else (none))) else (none)) := by kernel_rfl

/-! ### (*overdub/refs.Table).Of -/
noncomputable def G11 : FuncId → FunA := fun g => bif Nat.beq g 19 then refs_Table_may else fun _ _ => none
theorem G11_19 : G11 19 = refs_Table_may := by kernel_rfl
def A11 : Ann := .two (.leaf) (.two (.two (.leaf) (.two (.two (.leaf) (.leaf)) (.leaf))) (.two (.leaf) (.leaf)))
def R11 : Slots := [(4, .i .i64)]
noncomputable def refs_Table_Of : FunA := denF Try.prog G11 Try.f11 A11 R11
theorem refs_Table_Of_eq (p0 q0 o0 : Nat) (p1 : Int) (μ : AMem) : refs_Table_Of [.s (.ptr p0 q0 o0), .s (.int .i64 p1)] μ =
  (refs_Table_may [.s (.ptr p0 q0 o0), .s (.int .i64 p1)] μ).bind fun r1 =>
  asB r1.1 fun b2 =>
  bif (!b2) then
  (some (.s (.int .i64 0), r1.2))
  else
  ((r1.2.cell p0 q0 (o0 + 0)).bind fun x3 =>
    indS 1 (.s x3) p1 fun p4 =>
    loadAt r1.2 p4 fun v5 =>
    asI .i64 v5 fun n6 =>
    some (.s (.int .i64 n6), r1.2)) := by rw [← G11_19]; kernel_rfl

/-! ### (*overdub/refs.Table).Drop -/
noncomputable def G10 : FuncId → FunA := fun g => bif Nat.beq g 11 then refs_Table_Of else fun _ _ => none
theorem G10_11 : G10 11 = refs_Table_Of := by kernel_rfl
def A10 : Ann := .two (.leaf) (.two (.two (.leaf) (.two (.two (.leaf) (.leaf)) (.leaf))) (.two (.leaf) (.two (.leaf) (.leaf))))
def R10 : Slots := [(4, .i .i64), (5, .b)]
noncomputable def refs_Table_Drop : FunA := denF Try.prog G10 Try.f10 A10 R10
theorem refs_Table_Drop_eq (p0 q0 o0 : Nat) (p1 : Int) (μ : AMem) : refs_Table_Drop [.s (.ptr p0 q0 o0), .s (.int .i64 p1)] μ =
  (refs_Table_Of [.s (.ptr p0 q0 o0), .s (.int .i64 p1)] μ).bind fun r1 =>
  asI .i64 r1.1 fun n2 =>
  bif (n2 == 0) then
  (some (.tuple [.s (.int .i64 0), .s (.bool false)], r1.2))
  else
  ((r1.2.cell p0 q0 (o0 + 0)).bind fun x3 =>
    indS 1 (.s x3) p1 fun p4 =>
    loadAt r1.2 p4 fun v5 =>
    asI .i64 v5 fun n6 =>
    indS 1 (.s x3) p1 fun p7 =>
    storeAt 1 r1.2 p7 (.s (.int .i64 (IntKind.wrap .i64 (n6 - 1)))) fun m8 =>
    (m8.cell p0 q0 (o0 + 0)).bind fun x9 =>
    indS 1 (.s x9) p1 fun p10 =>
    loadAt m8 p10 fun v11 =>
    asI .i64 v11 fun n12 =>
    some (.tuple [.s (.int .i64 n12), .s (.bool true)], m8)) := by rw [← G10_11]; kernel_rfl

/-! ### overdub/overdublaw12.wakes -/
noncomputable def G12 : FuncId → FunA := fun g => bif Nat.beq g 8 then refs_New else bif Nat.beq g 9 then refs_Table_Add else bif Nat.beq g 10 then refs_Table_Drop else fun _ _ => none
theorem G12_8 : G12 8 = refs_New := by kernel_rfl
theorem G12_9 : G12 9 = refs_Table_Add := by kernel_rfl
theorem G12_10 : G12 10 = refs_Table_Drop := by kernel_rfl
def A12 : Ann := .two (.leaf) (.two (.leaf) (.two (.join [(20, .b)] [1] [] (.leaf) (.two (.two (.leaf) (.leaf)) (.leaf))) (.two (.leaf) (.two (.leaf) (.leaf)))))
def R12 : Slots := [(0, .b)]
noncomputable def overdublaw12_wakes : FunA := denF Try.prog G12 Try.f12 A12 R12
theorem overdublaw12_wakes_eq  (μ : AMem) : overdublaw12_wakes [] μ =
  (refs_New [.s (.int .i64 3)] μ).bind fun r1 =>
  extrK 0 r1.1 fun t2 =>
  asS t2 fun x3 =>
  extrK 1 r1.1 fun t4 =>
  asI .i64 t4 fun n5 =>
  seqJ
  (bif !(n5 != 0) then
    ((isNil (.s x3)).bind fun b6 =>
      bif !b6 then
      ((refs_Table_Add [.s x3, .s (.slice (r1.2.next + 8) 0 0 2)] ((r1.2.bump 12).set (r1.2.next + 8) (rowObj [.int .i64 1, .int .i64 1] 1 3 (some 2)))).bind fun r7 =>
        asB r7.1 fun b8 =>
        some (.normal, [.s (.bool (!b8))], r7.2))
      else
      (some (.normal, [.s (.bool true)], (r1.2.bump 12))))
    else
    (some (.normal, [.s (.bool true)], (r1.2.bump 12))))
  (fun vs9 m10 =>
    headK vs9 fun a11 r12 =>
    asB a11 fun b13 =>
    bif b13 then
    (some (.s (.bool false), m10))
    else
    ((refs_Table_Drop [.s x3, .s (.int .i64 1)] m10).bind fun r14 =>
      extrK 0 r14.1 fun t15 =>
      asI .i64 t15 fun n16 =>
      extrK 1 r14.1 fun t17 =>
      asB t17 fun b18 =>
      bif b18 then
      (some (.s (.bool (n16 == 1)), r14.2))
      else
      (some (.s (.bool false), r14.2))))
  (fun vs19 m20 =>
    headK vs19 fun a24 r25 =>
    asB a24 fun b26 =>
    some (.s (.bool b26), m20))
  (fun d23 vs21 m22 =>
    none) := by rw [← G12_8, ← G12_9, ← G12_10]; kernel_rfl

/-! ### overdub/overdublaw12.RefsLimits -/
noncomputable def G3 : FuncId → FunA := fun g => bif Nat.beq g 7 then overdubkeep_Within else bif Nat.beq g 8 then refs_New else bif Nat.beq g 9 then refs_Table_Add else bif Nat.beq g 10 then refs_Table_Drop else bif Nat.beq g 11 then refs_Table_Of else bif Nat.beq g 12 then overdublaw12_wakes else fun _ _ => none
theorem G3_7 : G3 7 = overdubkeep_Within := by kernel_rfl
theorem G3_8 : G3 8 = refs_New := by kernel_rfl
theorem G3_9 : G3 9 = refs_Table_Add := by kernel_rfl
theorem G3_10 : G3 10 = refs_Table_Drop := by kernel_rfl
theorem G3_11 : G3 11 = refs_Table_Of := by kernel_rfl
theorem G3_12 : G3 12 = overdublaw12_wakes := by kernel_rfl
def A3 : Ann := .two (.leaf) (.two (.leaf) (.two (.leaf) (.two (.join [(30, .b)] [0, 1, 2, 7] [] (.leaf) (.two (.two (.leaf) (.leaf)) (.leaf))) (.two (.two (.leaf) (.join [(0, .i .i64), (1, .i .i64), (2, .i .i64), (7, .s)] [] [] (.loop [(9, .i .i64)] [0, 1, 2, 7] [0] (.two (.two (.leaf) (.two (.leaf) (.leaf))) (.two (.join [(0, .i .i64), (1, .i .i64), (2, .i .i64), (7, .s), (9, .i .i64)] [] [] (.two (.leaf) (.two (.two (.leaf) (.leaf)) (.leaf))) .leaf) (.leaf)))) .leaf)) (.two (.two (.leaf) (.join [(0, .i .i64), (1, .i .i64), (7, .s)] [] [] (.loop [(10, .i .i64)] [0, 1, 7] [2] (.two (.two (.leaf) (.two (.leaf) (.leaf))) (.two (.join [(0, .i .i64), (1, .i .i64), (7, .s), (10, .i .i64)] [] [] (.two (.leaf) (.join [(61, .b)] [0, 1, 7, 10] [] (.leaf) (.two (.two (.leaf) (.leaf)) (.leaf)))) .leaf) (.leaf)))) .leaf)) (.two (.leaf) (.two (.join [(91, .b)] [0, 1, 7] [] (.leaf) (.two (.two (.leaf) (.leaf)) (.leaf))) (.two (.join [(98, .b)] [1, 7] [] (.leaf) (.two (.two (.leaf) (.leaf)) (.leaf))) (.two (.leaf) (.leaf))))))))))
def R3 : Slots := [(6, .b)]
noncomputable def overdublaw12_RefsLimits : FunA := denF Try.prog G3 Try.f3 A3 R3
noncomputable def overdublaw12_RefsLimits_L2_B (os vs : List AV) (μ : AMem) : Option Res := joinK [(10, .i .i64)] vs (envO [0, 1, 7] os) fun e => den Try.prog G3 Try.f3.ntmps (cL (cL (cR (cL (cR (cR (cR (cR (cR (bodyOf Try.f3)))))))))) (aL (aL (aR (aL (aR (aR (aR (aR (aR A3))))))))) { ret := R3, exits := [(2, [(0, .i .i64), (1, .i .i64), (7, .s)])] } Res e μ fun ex e μ => some (ex, valsOf (Lv.at { ret := R3, exits := [(2, [(0, .i .i64), (1, .i .i64), (7, .s)])] } [(10, .i .i64)] ex) e, μ)
noncomputable def overdublaw12_RefsLimits_L2 (os vs : List AV) (μ : AMem) : Option Res := loopA (overdublaw12_RefsLimits_L2_B os) vs μ
noncomputable def overdublaw12_RefsLimits_L1_B (os vs : List AV) (μ : AMem) : Option Res := joinK [(9, .i .i64)] vs (envO [0, 1, 2, 7] os) fun e => den Try.prog G3 Try.f3.ntmps (cL (cL (cR (cL (cR (cR (cR (cR (bodyOf Try.f3))))))))) (aL (aL (aR (aL (aR (aR (aR (aR A3)))))))) { ret := R3, exits := [(0, [(0, .i .i64), (1, .i .i64), (2, .i .i64), (7, .s)])] } Res e μ fun ex e μ => some (ex, valsOf (Lv.at { ret := R3, exits := [(0, [(0, .i .i64), (1, .i .i64), (2, .i .i64), (7, .s)])] } [(9, .i .i64)] ex) e, μ)
noncomputable def overdublaw12_RefsLimits_L1 (os vs : List AV) (μ : AMem) : Option Res := loopA (overdublaw12_RefsLimits_L1_B os) vs μ
theorem overdublaw12_RefsLimits_L2_B_eq (s0 : Int) (s1 : Int) (s7 : SV) (s10 : Int) (μ : AMem) : overdublaw12_RefsLimits_L2_B [.s (.int .i64 s0), .s (.int .i64 s1), .s s7] [.s (.int .i64 s10)] μ =
  bif decide (s10 ≥ 0) then
  ((refs_Table_Drop [.s s7, .s (.int .i64 (IntKind.wrap .i64 (s0 - 1)))] μ).bind fun r112 =>
    extrK 0 r112.1 fun t113 =>
    asI .i64 t113 fun n114 =>
    extrK 1 r112.1 fun t115 =>
    asB t115 fun b116 =>
    seqJ
    (bif !(!b116) then
      (some (.normal, [.s (.bool (n114 != s10))], r112.2))
      else
      (some (.normal, [.s (.bool true)], r112.2)))
    (fun vs117 m118 =>
      headK vs117 fun a119 r120 =>
      asB a119 fun b121 =>
      bif b121 then
      (some (.ret, [.s (.bool false)], m118))
      else
      (some (.normal, [.s (.int .i64 (IntKind.wrap .i64 (s10 - 1)))], m118)))
    (fun vs122 m123 =>
      headK vs122 fun a127 r128 =>
      asB a127 fun b129 =>
      some (.ret, [.s (.bool b129)], m123))
    (fun d126 vs124 m125 =>
      none))
  else
  (some (.exit 2, [.s (.int .i64 s0), .s (.int .i64 s1), .s s7], μ)) := by rw [← G3_10]; kernel_rfl
theorem overdublaw12_RefsLimits_L2_eq (os vs : List AV) (μ : AMem) : overdublaw12_RefsLimits_L2 os vs μ = (overdublaw12_RefsLimits_L2_B os vs μ).bind fun r => match r.1 with | .normal => overdublaw12_RefsLimits_L2 os r.2.1 r.2.2 | _ => some r := loopA_eq _ _ _
theorem overdublaw12_RefsLimits_L1_B_eq (s0 : Int) (s1 : Int) (s2 : Int) (s7 : SV) (s9 : Int) (μ : AMem) : overdublaw12_RefsLimits_L1_B [.s (.int .i64 s0), .s (.int .i64 s1), .s (.int .i64 s2), .s s7] [.s (.int .i64 s9)] μ =
  bif decide (s9 < s2) then
  ((refs_Table_Add [.s s7, .s (.slice (μ.next + 3) 0 0 1)] ((μ.bump 6).set (μ.next + 3) (rowObj [.int .i64 (IntKind.wrap .i64 (s0 - 1))] 1 3 (some 1)))).bind fun r110 =>
    asB r110.1 fun b111 =>
    bif (!b111) then
    (some (.ret, [.s (.bool false)], r110.2))
    else
    (some (.normal, [.s (.int .i64 (IntKind.wrap .i64 (s9 + 1)))], r110.2)))
  else
  (some (.exit 0, [.s (.int .i64 s0), .s (.int .i64 s1), .s (.int .i64 s2), .s s7], μ)) := by rw [← G3_9]; kernel_rfl
theorem overdublaw12_RefsLimits_L1_eq (os vs : List AV) (μ : AMem) : overdublaw12_RefsLimits_L1 os vs μ = (overdublaw12_RefsLimits_L1_B os vs μ).bind fun r => match r.1 with | .normal => overdublaw12_RefsLimits_L1 os r.2.1 r.2.2 | _ => some r := loopA_eq _ _ _
theorem overdublaw12_RefsLimits_eq (p0 : Int) (p1 : Int) (p2 : Int) (μ : AMem) : overdublaw12_RefsLimits [.s (.int .i64 p0), .s (.int .i64 p1), .s (.int .i64 p2)] μ =
  (overdubkeep_Within [.s (.int .i64 p0), .s (.int .i64 30)] μ).bind fun r1 =>
  asI .i64 r1.1 fun n2 =>
  (overdubkeep_Within [.s (.int .i64 p2), .s (.int .i64 9)] r1.2).bind fun r3 =>
  asI .i64 r3.1 fun n4 =>
  (refs_New [.s (.int .i64 (IntKind.wrap .i64 (1 + n2)))] r3.2).bind fun r5 =>
  extrK 0 r5.1 fun t6 =>
  asS t6 fun x7 =>
  extrK 1 r5.1 fun t8 =>
  asI .i64 t8 fun n9 =>
  seqJ
  (bif !(n9 != 0) then
    ((isNil (.s x7)).bind fun b10 =>
      some (.normal, [.s (.bool b10)], r5.2))
    else
    (some (.normal, [.s (.bool true)], r5.2)))
  (fun vs11 m12 =>
    headK vs11 fun a13 r14 =>
    asB a13 fun b15 =>
    bif b15 then
    (some (.s (.bool false), m12))
    else
    (seqJ (overdublaw12_RefsLimits_L1 [.s (.int .i64 (IntKind.wrap .i64 (1 + n2))), .s (.int .i64 p1), .s (.int .i64 n4), .s x7] [.s (.int .i64 0)] m12)
      (fun _ _ => none)
      (fun vs16 m17 =>
        headK vs16 fun a21 r22 =>
        asB a21 fun b23 =>
        some (.s (.bool b23), m17))
      (fun d20 vs18 m19 =>
        bif Nat.beq 0 d20 then (headK vs18 fun a24 r25 =>
          asI .i64 a24 fun n26 =>
          headK r25 fun a27 r28 =>
          asI .i64 a27 fun n29 =>
          headK r28 fun a30 r31 =>
          asI .i64 a30 fun n32 =>
          headK r31 fun a33 r34 =>
          asS a33 fun x35 =>
          seqJ (overdublaw12_RefsLimits_L2 [.s (.int .i64 n26), .s (.int .i64 n29), .s x35] [.s (.int .i64 (IntKind.wrap .i64 (n32 - 1)))] m19)
          (fun _ _ => none)
          (fun vs36 m37 =>
            headK vs36 fun a41 r42 =>
            asB a41 fun b43 =>
            some (.s (.bool b43), m37))
          (fun d40 vs38 m39 =>
            bif Nat.beq 2 d40 then (headK vs38 fun a44 r45 =>
              asI .i64 a44 fun n46 =>
              headK r45 fun a47 r48 =>
              asI .i64 a47 fun n49 =>
              headK r48 fun a50 r51 =>
              asS a50 fun x52 =>
              (refs_Table_Drop [.s x52, .s (.int .i64 (IntKind.wrap .i64 (n46 - 1)))] m39).bind fun r53 =>
              extrK 0 r53.1 fun t54 =>
              asI .i64 t54 fun n55 =>
              extrK 1 r53.1 fun t56 =>
              asB t56 fun b57 =>
              seqJ
              (bif !b57 then
                (bif !(n55 != 0) then
                  ((refs_Table_Add [.s x52, .s (.slice (r53.2.next + 8) 0 0 1)] ((r53.2.bump 23).set (r53.2.next + 8) (rowObj [.int .i64 n46] 1 3 (some 1)))).bind fun r58 =>
                    asB r58.1 fun b59 =>
                    bif !b59 then
                    ((refs_Table_Add [.s x52, .s (.slice (r53.2.next + 13) 0 0 1)] (r58.2.set (r53.2.next + 13) (rowObj [.int .i64 (-1)] 1 3 (some 1)))).bind fun r60 =>
                      asB r60.1 fun b61 =>
                      bif !b61 then
                      ((refs_Table_Of [.s x52, .s (.int .i64 (IntKind.wrap .i64 (n46 - 1)))] r60.2).bind fun r62 =>
                        asI .i64 r62.1 fun n63 =>
                        some (.normal, [.s (.bool (n63 != 0))], r62.2))
                      else
                      (some (.normal, [.s (.bool true)], r60.2)))
                    else
                    (some (.normal, [.s (.bool true)], r58.2)))
                  else
                  (some (.normal, [.s (.bool true)], (r53.2.bump 23))))
                else
                (some (.normal, [.s (.bool true)], (r53.2.bump 23))))
              (fun vs64 m65 =>
                headK vs64 fun a66 r67 =>
                asB a66 fun b68 =>
                bif b68 then
                (some (.s (.bool false), m65))
                else
                (seqJ
                  (bif decide (n49 ≥ 0) then
                    (some (.normal, [.s (.bool (decide (n49 < n46)))], m65))
                    else
                    (some (.normal, [.s (.bool false)], m65)))
                  (fun vs69 m70 =>
                    headK vs69 fun a71 r72 =>
                    asB a71 fun b73 =>
                    bif b73 then
                    ((refs_Table_Add [.s x52, .s (.slice (m70.next + 2) 0 0 1)] ((m70.bump 14).set (m70.next + 2) (rowObj [.int .i64 n49] 1 3 (some 1)))).bind fun r74 =>
                      asB r74.1 fun b75 =>
                      bif b75 then
                      ((refs_Table_Of [.s x52, .s (.int .i64 n49)] r74.2).bind fun r76 =>
                        asI .i64 r76.1 fun n77 =>
                        bif (n77 == 1) then
                        ((overdublaw12_wakes [] r76.2).bind fun r78 =>
                          asB r78.1 fun b79 =>
                          some (.s (.bool b79), r78.2))
                        else
                        (some (.s (.bool false), r76.2)))
                      else
                      (some (.s (.bool false), r74.2)))
                    else
                    ((refs_Table_Add [.s x52, .s (.slice (m70.next + 2) 0 0 1)] ((m70.bump 15).set (m70.next + 2) (rowObj [.int .i64 n49] 1 3 (some 1)))).bind fun r80 =>
                      asB r80.1 fun b81 =>
                      bif (!b81) then
                      ((refs_Table_Of [.s x52, .s (.int .i64 n49)] r80.2).bind fun r82 =>
                        asI .i64 r82.1 fun n83 =>
                        bif (n83 == 0) then
                        ((overdublaw12_wakes [] r82.2).bind fun r84 =>
                          asB r84.1 fun b85 =>
                          some (.s (.bool b85), r84.2))
                        else
                        (some (.s (.bool false), r82.2)))
                      else
                      (some (.s (.bool false), r80.2))))
                  (fun vs86 m87 =>
                    headK vs86 fun a91 r92 =>
                    asB a91 fun b93 =>
                    some (.s (.bool b93), m87))
                  (fun d90 vs88 m89 =>
                    none)))
              (fun vs94 m95 =>
                headK vs94 fun a99 r100 =>
                asB a99 fun b101 =>
                some (.s (.bool b101), m95))
              (fun d98 vs96 m97 =>
                none)) else (none))) else (none))))
  (fun vs102 m103 =>
    headK vs102 fun a107 r108 =>
    asB a107 fun b109 =>
    some (.s (.bool b109), m103))
  (fun d106 vs104 m105 =>
    none) := by rw [← G3_7, ← G3_8, ← G3_9, ← G3_10, ← G3_11, ← G3_12]; kernel_rfl

/-! ### (*overdub/refs.Table).Sum -/
noncomputable def G13 : FuncId → FunA := fun _ _ _ => none
def A13 : Ann := .two (.leaf) (.two (.leaf) (.two (.two (.leaf) (.join [(3, .i .i64)] [] [] (.loop [(3, .i .i64), (11, .i .i64)] [9, 10] [0] (.two (.leaf) (.two (.two (.leaf) (.leaf)) (.two (.join [(3, .i .i64), (9, .s), (10, .i .i64), (11, .i .i64)] [] [] (.two (.leaf) (.leaf)) .leaf) (.leaf))))) .leaf)) (.two (.leaf) (.leaf))))
def R13 : Slots := [(2, .i .i64)]
noncomputable def refs_Table_Sum : FunA := denF Try.prog G13 Try.f13 A13 R13
noncomputable def refs_Table_Sum_L1_B (os vs : List AV) (μ : AMem) : Option Res := joinK [(3, .i .i64), (11, .i .i64)] vs (envO [9, 10] os) fun e => den Try.prog G13 Try.f13.ntmps (cL (cL (cR (cL (cR (cR (bodyOf Try.f13))))))) (aL (aL (aR (aL (aR (aR A13)))))) { ret := R13, exits := [(0, [(3, .i .i64)])] } Res e μ fun ex e μ => some (ex, valsOf (Lv.at { ret := R13, exits := [(0, [(3, .i .i64)])] } [(3, .i .i64), (11, .i .i64)] ex) e, μ)
noncomputable def refs_Table_Sum_L1 (os vs : List AV) (μ : AMem) : Option Res := loopA (refs_Table_Sum_L1_B os) vs μ
theorem refs_Table_Sum_L1_B_eq (s9 : SV) (s10 : Int) (s3 : Int) (s11 : Int) (μ : AMem) : refs_Table_Sum_L1_B [.s s9, .s (.int .i64 s10)] [.s (.int .i64 s3), .s (.int .i64 s11)] μ =
  bif decide (s11 < s10) then
  (indS 1 (.s s9) s11 fun p14 =>
    loadAt μ p14 fun v15 =>
    asI .i64 v15 fun n16 =>
    some (.normal, [.s (.int .i64 (IntKind.wrap .i64 (s3 + n16))), .s (.int .i64 (IntKind.wrap .i64 (s11 + 1)))], μ))
  else
  (some (.exit 0, [.s (.int .i64 s3)], μ)) := by kernel_rfl
theorem refs_Table_Sum_L1_eq (os vs : List AV) (μ : AMem) : refs_Table_Sum_L1 os vs μ = (refs_Table_Sum_L1_B os vs μ).bind fun r => match r.1 with | .normal => refs_Table_Sum_L1 os r.2.1 r.2.2 | _ => some r := loopA_eq _ _ _
theorem refs_Table_Sum_eq (p0 q0 o0 : Nat) (μ : AMem) : refs_Table_Sum [.s (.ptr p0 q0 o0)] μ =
  (μ.cell p0 q0 (o0 + 0)).bind fun x1 =>
  (lenS (.s x1)).bind fun l2 =>
  seqJ (refs_Table_Sum_L1 [.s x1, .s (.int .i64 ((l2 : Nat) : Int))] [.s (.int .i64 0), .s (.int .i64 0)] μ)
  (fun _ _ => none)
  (fun vs3 m4 =>
    headK vs3 fun a8 r9 =>
    asI .i64 a8 fun n10 =>
    some (.s (.int .i64 n10), m4))
  (fun d7 vs5 m6 =>
    bif Nat.beq 0 d7 then (headK vs5 fun a11 r12 =>
      asI .i64 a11 fun n13 =>
      some (.s (.int .i64 n13), m6)) else (none)) := by kernel_rfl

/-! ### overdub/overdubkeep.Copy[int] -/
noncomputable def G14 : FuncId → FunA := fun _ _ _ => none
def A14 : Ann := .two (.leaf) (.two (.leaf) (.leaf))
def R14 : Slots := [(2, .s)]
noncomputable def overdubkeep_Copy_int : FunA := denF Try.prog G14 Try.f14 A14 R14
theorem overdubkeep_Copy_int_eq (p0 : SV) (μ : AMem) : overdubkeep_Copy_int [.s p0] μ =
  appendA 3 1 8 (μ.next + 1) (μ.bump 3) (.s .nilSlice) (.s p0) fun x1 m2 =>
  asS x1 fun x3 =>
  some (.s x3, m2) := by kernel_rfl

/-! ### (*overdub/refs.Table).Owned -/
noncomputable def G15 : FuncId → FunA := fun _ _ _ => none
def A15 : Ann := .two (.leaf) (.two (.leaf) (.two (.two (.leaf) (.join [(3, .s)] [] [] (.loop [(3, .s), (11, .i .i64)] [9, 10] [0] (.two (.leaf) (.two (.two (.leaf) (.leaf)) (.join [(3, .s)] [9, 10, 11] [] (.join [(3, .s), (9, .s), (10, .i .i64), (11, .i .i64)] [] [] (.two (.leaf) (.two (.leaf) (.two (.leaf) (.leaf)))) .leaf) (.leaf))))) .leaf)) (.two (.leaf) (.leaf))))
def R15 : Slots := [(2, .s)]
noncomputable def refs_Table_Owned : FunA := denF Try.prog G15 Try.f15 A15 R15
noncomputable def refs_Table_Owned_L1_B (os vs : List AV) (μ : AMem) : Option Res := joinK [(3, .s), (11, .i .i64)] vs (envO [9, 10] os) fun e => den Try.prog G15 Try.f15.ntmps (cL (cL (cR (cL (cR (cR (bodyOf Try.f15))))))) (aL (aL (aR (aL (aR (aR A15)))))) { ret := R15, exits := [(0, [(3, .s)])] } Res e μ fun ex e μ => some (ex, valsOf (Lv.at { ret := R15, exits := [(0, [(3, .s)])] } [(3, .s), (11, .i .i64)] ex) e, μ)
noncomputable def refs_Table_Owned_L1 (os vs : List AV) (μ : AMem) : Option Res := loopA (refs_Table_Owned_L1_B os) vs μ
theorem refs_Table_Owned_L1_B_eq (s9 : SV) (s10 : Int) (s3 : SV) (s11 : Int) (μ : AMem) : refs_Table_Owned_L1_B [.s s9, .s (.int .i64 s10)] [.s s3, .s (.int .i64 s11)] μ =
  bif decide (s11 < s10) then
  (seqJ
    (indS 1 (.s s9) s11 fun p14 =>
      loadAt μ p14 fun v15 =>
      asI .i64 v15 fun n16 =>
      bif decide (n16 > 0) then
      (appendA 3 1 8 (μ.next + 3) ((μ.bump 5).set (μ.next + 2) (rowObj [.int .i64 s11] 1 3 (some 1))) (.s s3) (.s (.slice (μ.next + 2) 0 0 1)) fun x17 m18 =>
        asS x17 fun x19 =>
        some (.normal, [.s x19], m18))
      else
      (some (.normal, [.s s3], μ)))
    (fun vs20 m21 =>
      headK vs20 fun a22 r23 =>
      asS a22 fun x24 =>
      some (.normal, [.s x24, .s (.int .i64 (IntKind.wrap .i64 (s11 + 1)))], m21))
    (fun vs25 m26 =>
      headK vs25 fun a30 r31 =>
      asS a30 fun x32 =>
      some (.ret, [.s x32], m26))
    (fun d29 vs27 m28 =>
      none))
  else
  (some (.exit 0, [.s s3], μ)) := by kernel_rfl
theorem refs_Table_Owned_L1_eq (os vs : List AV) (μ : AMem) : refs_Table_Owned_L1 os vs μ = (refs_Table_Owned_L1_B os vs μ).bind fun r => match r.1 with | .normal => refs_Table_Owned_L1 os r.2.1 r.2.2 | _ => some r := loopA_eq _ _ _
theorem refs_Table_Owned_eq (p0 q0 o0 : Nat) (μ : AMem) : refs_Table_Owned [.s (.ptr p0 q0 o0)] μ =
  (μ.cell p0 q0 (o0 + 0)).bind fun x1 =>
  (lenS (.s x1)).bind fun l2 =>
  seqJ (refs_Table_Owned_L1 [.s x1, .s (.int .i64 ((l2 : Nat) : Int))] [.s .nilSlice, .s (.int .i64 0)] μ)
  (fun _ _ => none)
  (fun vs3 m4 =>
    headK vs3 fun a8 r9 =>
    asS a8 fun x10 =>
    some (.s x10, m4))
  (fun d7 vs5 m6 =>
    bif Nat.beq 0 d7 then (headK vs5 fun a11 r12 =>
      asS a11 fun x13 =>
      some (.s x13, m6)) else (none)) := by kernel_rfl

/-! ### overdub/overdublaw12.RefsBack -/
noncomputable def G4 : FuncId → FunA := fun g => bif Nat.beq g 8 then refs_New else bif Nat.beq g 7 then overdubkeep_Within else bif Nat.beq g 9 then refs_Table_Add else bif Nat.beq g 13 then refs_Table_Sum else bif Nat.beq g 12 then overdublaw12_wakes else bif Nat.beq g 14 then overdubkeep_Copy_int else bif Nat.beq g 10 then refs_Table_Drop else bif Nat.beq g 15 then refs_Table_Owned else fun _ _ => none
theorem G4_8 : G4 8 = refs_New := by kernel_rfl
theorem G4_7 : G4 7 = overdubkeep_Within := by kernel_rfl
theorem G4_9 : G4 9 = refs_Table_Add := by kernel_rfl
theorem G4_13 : G4 13 = refs_Table_Sum := by kernel_rfl
theorem G4_12 : G4 12 = overdublaw12_wakes := by kernel_rfl
theorem G4_14 : G4 14 = overdubkeep_Copy_int := by kernel_rfl
theorem G4_10 : G4 10 = refs_Table_Drop := by kernel_rfl
theorem G4_15 : G4 15 = refs_Table_Owned := by kernel_rfl
def A4 : Ann := .two (.leaf) (.two (.leaf) (.two (.join [(23, .b)] [0, 1, 5] [] (.leaf) (.two (.two (.leaf) (.leaf)) (.leaf))) (.two (.leaf) (.two (.two (.leaf) (.join [(1, .i .i64), (5, .s), (7, .s)] [] [] (.loop [(7, .s), (8, .i .i64)] [0, 1, 5] [0] (.two (.join [(31, .b)] [0, 1, 5, 7, 8] [] (.leaf) (.two (.leaf) (.leaf))) (.two (.join [(0, .s), (1, .i .i64), (5, .s), (7, .s), (8, .i .i64)] [] [] (.leaf) .leaf) (.leaf)))) .leaf)) (.two (.join [(60, .b)] [1, 5, 7] [] (.leaf) (.two (.two (.leaf) (.leaf)) (.leaf))) (.two (.join [(90, .b)] [5, 7] [] (.leaf) (.two (.two (.leaf) (.leaf)) (.leaf))) (.two (.two (.leaf) (.join [(5, .s)] [] [] (.loop [(93, .i .i64)] [5, 7, 92] [2] (.two (.leaf) (.two (.two (.leaf) (.leaf)) (.two (.join [(5, .s), (7, .s), (92, .i .i64), (93, .i .i64)] [] [] (.two (.leaf) (.two (.leaf) (.join [(120, .b)] [5, 7, 92, 93] [] (.leaf) (.two (.two (.leaf) (.leaf)) (.leaf))))) .leaf) (.leaf))))) .leaf)) (.two (.leaf) (.two (.leaf) (.leaf))))))))))
def R4 : Slots := [(4, .b)]
noncomputable def overdublaw12_RefsBack : FunA := denF Try.prog G4 Try.f4 A4 R4
noncomputable def overdublaw12_RefsBack_L2_B (os vs : List AV) (μ : AMem) : Option Res := joinK [(93, .i .i64)] vs (envO [5, 7, 92] os) fun e => den Try.prog G4 Try.f4.ntmps (cL (cL (cR (cL (cR (cR (cR (cR (cR (cR (cR (bodyOf Try.f4)))))))))))) (aL (aL (aR (aL (aR (aR (aR (aR (aR (aR (aR A4))))))))))) { ret := R4, exits := [(2, [(5, .s)])] } Res e μ fun ex e μ => some (ex, valsOf (Lv.at { ret := R4, exits := [(2, [(5, .s)])] } [(93, .i .i64)] ex) e, μ)
noncomputable def overdublaw12_RefsBack_L2 (os vs : List AV) (μ : AMem) : Option Res := loopA (overdublaw12_RefsBack_L2_B os) vs μ
noncomputable def overdublaw12_RefsBack_L1_B (os vs : List AV) (μ : AMem) : Option Res := joinK [(7, .s), (8, .i .i64)] vs (envO [0, 1, 5] os) fun e => den Try.prog G4 Try.f4.ntmps (cL (cL (cR (cL (cR (cR (cR (cR (bodyOf Try.f4))))))))) (aL (aL (aR (aL (aR (aR (aR (aR A4)))))))) { ret := R4, exits := [(0, [(1, .i .i64), (5, .s), (7, .s)])] } Res e μ fun ex e μ => some (ex, valsOf (Lv.at { ret := R4, exits := [(0, [(1, .i .i64), (5, .s), (7, .s)])] } [(7, .s), (8, .i .i64)] ex) e, μ)
noncomputable def overdublaw12_RefsBack_L1 (os vs : List AV) (μ : AMem) : Option Res := loopA (overdublaw12_RefsBack_L1_B os) vs μ
theorem overdublaw12_RefsBack_L2_B_eq (s5 : SV) (s7 : SV) (s92 : Int) (s93 : Int) (μ : AMem) : overdublaw12_RefsBack_L2_B [.s s5, .s s7, .s (.int .i64 s92)] [.s (.int .i64 s93)] μ =
  bif decide (s93 < s92) then
  ((lenS (.s s7)).bind fun l127 =>
    indS 1 (.s s7) (IntKind.wrap .i64 ((IntKind.wrap .i64 (((l127 : Nat) : Int) - 1)) - s93)) fun p128 =>
    loadAt μ p128 fun v129 =>
    asI .i64 v129 fun n130 =>
    (refs_Table_Drop [.s s5, .s (.int .i64 n130)] μ).bind fun r131 =>
    extrK 0 r131.1 fun t132 =>
    asI .i64 t132 fun n133 =>
    extrK 1 r131.1 fun t134 =>
    asB t134 fun b135 =>
    seqJ
    (bif !(!b135) then
      ((refs_Table_Sum [.s s5] r131.2).bind fun r136 =>
        asI .i64 r136.1 fun n137 =>
        (lenS (.s s7)).bind fun l138 =>
        some (.normal, [.s (.bool (n137 != (IntKind.wrap .i64 ((IntKind.wrap .i64 (((l138 : Nat) : Int) - 1)) - s93))))], r136.2))
      else
      (some (.normal, [.s (.bool true)], r131.2)))
    (fun vs139 m140 =>
      headK vs139 fun a141 r142 =>
      asB a141 fun b143 =>
      bif b143 then
      (some (.ret, [.s (.bool false)], m140))
      else
      (some (.normal, [.s (.int .i64 (IntKind.wrap .i64 (s93 + 1)))], m140)))
    (fun vs144 m145 =>
      headK vs144 fun a149 r150 =>
      asB a149 fun b151 =>
      some (.ret, [.s (.bool b151)], m145))
    (fun d148 vs146 m147 =>
      none))
  else
  (some (.exit 2, [.s s5], μ)) := by rw [← G4_13, ← G4_10]; kernel_rfl
theorem overdublaw12_RefsBack_L2_eq (os vs : List AV) (μ : AMem) : overdublaw12_RefsBack_L2 os vs μ = (overdublaw12_RefsBack_L2_B os vs μ).bind fun r => match r.1 with | .normal => overdublaw12_RefsBack_L2 os r.2.1 r.2.2 | _ => some r := loopA_eq _ _ _
theorem overdublaw12_RefsBack_L1_B_eq (s0 : SV) (s1 : Int) (s5 : SV) (s7 : SV) (s8 : Int) (μ : AMem) : overdublaw12_RefsBack_L1_B [.s s0, .s (.int .i64 s1), .s s5] [.s s7, .s (.int .i64 s8)] μ =
  seqJ
  ((lenS (.s s0)).bind fun l105 =>
    bif decide (s8 < ((l105 : Nat) : Int)) then
    (some (.normal, [.s (.bool (decide (s8 < 20)))], μ))
    else
    (some (.normal, [.s (.bool false)], μ)))
  (fun vs106 m107 =>
    headK vs106 fun a108 r109 =>
    asB a108 fun b110 =>
    bif b110 then
    (indS 1 (.s s0) s8 fun p111 =>
      loadAt (m107.bump 9) p111 fun v112 =>
      asI .i64 v112 fun n113 =>
      (overdubkeep_Within [.s (.int .i64 n113), .s (.int .i64 10)] (m107.bump 9)).bind fun r114 =>
      asI .i64 r114.1 fun n115 =>
      appendA 3 1 8 (m107.next + 7) (r114.2.set (m107.next + 6) (rowObj [.int .i64 n115] 1 3 (some 1))) (.s s7) (.s (.slice (m107.next + 6) 0 0 1)) fun x116 m117 =>
      asS x116 fun x118 =>
      some (.normal, [.s x118, .s (.int .i64 (IntKind.wrap .i64 (s8 + 1)))], m117))
    else
    (some (.exit 0, [.s (.int .i64 s1), .s s5, .s s7], m107)))
  (fun vs119 m120 =>
    headK vs119 fun a124 r125 =>
    asB a124 fun b126 =>
    some (.ret, [.s (.bool b126)], m120))
  (fun d123 vs121 m122 =>
    none) := by rw [← G4_7]; kernel_rfl
theorem overdublaw12_RefsBack_L1_eq (os vs : List AV) (μ : AMem) : overdublaw12_RefsBack_L1 os vs μ = (overdublaw12_RefsBack_L1_B os vs μ).bind fun r => match r.1 with | .normal => overdublaw12_RefsBack_L1 os r.2.1 r.2.2 | _ => some r := loopA_eq _ _ _
theorem overdublaw12_RefsBack_eq (p0 : SV) (p1 : Int) (μ : AMem) : overdublaw12_RefsBack [.s p0, .s (.int .i64 p1)] μ =
  (refs_New [.s (.int .i64 10)] μ).bind fun r1 =>
  extrK 0 r1.1 fun t2 =>
  asS t2 fun x3 =>
  extrK 1 r1.1 fun t4 =>
  asI .i64 t4 fun n5 =>
  seqJ
  (bif !(n5 != 0) then
    ((isNil (.s x3)).bind fun b6 =>
      some (.normal, [.s (.bool b6)], r1.2))
    else
    (some (.normal, [.s (.bool true)], r1.2)))
  (fun vs7 m8 =>
    headK vs7 fun a9 r10 =>
    asB a9 fun b11 =>
    bif b11 then
    (some (.s (.bool false), m8))
    else
    (seqJ (overdublaw12_RefsBack_L1 [.s p0, .s (.int .i64 p1), .s x3] [.s .nilSlice, .s (.int .i64 0)] m8)
      (fun _ _ => none)
      (fun vs12 m13 =>
        headK vs12 fun a17 r18 =>
        asB a17 fun b19 =>
        some (.s (.bool b19), m13))
      (fun d16 vs14 m15 =>
        bif Nat.beq 0 d16 then (headK vs14 fun a20 r21 =>
          asI .i64 a20 fun n22 =>
          headK r21 fun a23 r24 =>
          asS a23 fun x25 =>
          headK r24 fun a26 r27 =>
          asS a26 fun x28 =>
          seqJ
          ((refs_Table_Add [.s x25, .s x28] m15).bind fun r29 =>
            asB r29.1 fun b30 =>
            bif !(!b30) then
            ((refs_Table_Sum [.s x25] r29.2).bind fun r31 =>
              asI .i64 r31.1 fun n32 =>
              (lenS (.s x28)).bind fun l33 =>
              bif !(n32 != ((l33 : Nat) : Int)) then
              (bif decide (n22 ≥ 0) then
                (some (.normal, [.s (.bool (decide (n22 < 10)))], r31.2))
                else
                (some (.normal, [.s (.bool false)], r31.2)))
              else
              (some (.normal, [.s (.bool true)], r31.2)))
            else
            (some (.normal, [.s (.bool true)], r29.2)))
          (fun vs34 m35 =>
            headK vs34 fun a36 r37 =>
            asB a36 fun b38 =>
            bif b38 then
            (bif decide (n22 ≥ 0) then
              (bif decide (n22 < 10) then
                ((refs_Table_Sum [.s x25] m35).bind fun r39 =>
                  asI .i64 r39.1 fun n40 =>
                  (lenS (.s x28)).bind fun l41 =>
                  bif (n40 == ((l41 : Nat) : Int)) then
                  ((overdublaw12_wakes [] r39.2).bind fun r42 =>
                    asB r42.1 fun b43 =>
                    some (.s (.bool b43), r42.2))
                  else
                  (some (.s (.bool false), r39.2)))
                else
                (some (.s (.bool false), m35)))
              else
              (some (.s (.bool false), m35)))
            else
            (seqJ
              ((overdubkeep_Copy_int [.s x28] (m35.bump 14)).bind fun r44 =>
                asS r44.1 fun x45 =>
                appendA 3 1 8 (m35.next + 5) (r44.2.set (m35.next + 4) (rowObj [.int .i64 n22] 1 3 (some 1))) (.s x45) (.s (.slice (m35.next + 4) 0 0 1)) fun x46 m47 =>
                asS x46 fun x48 =>
                (refs_Table_Add [.s x25, .s x48] m47).bind fun r49 =>
                asB r49.1 fun b50 =>
                bif !b50 then
                ((refs_Table_Sum [.s x25] r49.2).bind fun r51 =>
                  asI .i64 r51.1 fun n52 =>
                  (lenS (.s x28)).bind fun l53 =>
                  some (.normal, [.s (.bool (n52 != ((l53 : Nat) : Int)))], r51.2))
                else
                (some (.normal, [.s (.bool true)], r49.2)))
              (fun vs54 m55 =>
                headK vs54 fun a56 r57 =>
                asB a56 fun b58 =>
                bif b58 then
                (some (.s (.bool false), m55))
                else
                ((lenS (.s x28)).bind fun l59 =>
                  seqJ (overdublaw12_RefsBack_L2 [.s x25, .s x28, .s (.int .i64 ((l59 : Nat) : Int))] [.s (.int .i64 0)] m55)
                  (fun _ _ => none)
                  (fun vs60 m61 =>
                    headK vs60 fun a65 r66 =>
                    asB a65 fun b67 =>
                    some (.s (.bool b67), m61))
                  (fun d64 vs62 m63 =>
                    bif Nat.beq 2 d64 then (headK vs62 fun a68 r69 =>
                      asS a68 fun x70 =>
                      (refs_Table_Drop [.s x70, .s (.int .i64 3)] m63).bind fun r71 =>
                      extrK 0 r71.1 fun t72 =>
                      asI .i64 t72 fun n73 =>
                      extrK 1 r71.1 fun t74 =>
                      asB t74 fun b75 =>
                      bif (!b75) then
                      ((refs_Table_Owned [.s x70] r71.2).bind fun r76 =>
                        asS r76.1 fun x77 =>
                        (lenS (.s x77)).bind fun l78 =>
                        bif (((l78 : Nat) : Int) == 0) then
                        ((overdublaw12_wakes [] r76.2).bind fun r79 =>
                          asB r79.1 fun b80 =>
                          some (.s (.bool b80), r79.2))
                        else
                        (some (.s (.bool false), r76.2)))
                      else
                      (some (.s (.bool false), r71.2))) else (none))))
              (fun vs81 m82 =>
                headK vs81 fun a86 r87 =>
                asB a86 fun b88 =>
                some (.s (.bool b88), m82))
              (fun d85 vs83 m84 =>
                none)))
          (fun vs89 m90 =>
            headK vs89 fun a94 r95 =>
            asB a94 fun b96 =>
            some (.s (.bool b96), m90))
          (fun d93 vs91 m92 =>
            none)) else (none))))
  (fun vs97 m98 =>
    headK vs97 fun a102 r103 =>
    asB a102 fun b104 =>
    some (.s (.bool b104), m98))
  (fun d101 vs99 m100 =>
    none) := by rw [← G4_8, ← G4_9, ← G4_13, ← G4_12, ← G4_14, ← G4_10, ← G4_15]; kernel_rfl

/-! ### overdub/overdubkeep.Same[int] -/
noncomputable def G16 : FuncId → FunA := fun _ _ _ => none
def A16 : Ann := .two (.leaf) (.two (.two (.leaf) (.two (.two (.leaf) (.leaf)) (.leaf))) (.two (.two (.leaf) (.join [] [] [] (.loop [(5, .i .i64)] [0, 1] [0] (.two (.two (.leaf) (.two (.leaf) (.leaf))) (.two (.join [(0, .s), (1, .s), (5, .i .i64)] [] [] (.two (.ord [0, 1, 2, 3, 4, 5, 6, 7, 8]) (.two (.two (.leaf) (.leaf)) (.leaf))) .leaf) (.leaf)))) .leaf)) (.two (.leaf) (.leaf))))
def R16 : Slots := [(4, .b)]
noncomputable def overdubkeep_Same_int : FunA := denF Try.prog G16 Try.f16 A16 R16
noncomputable def overdubkeep_Same_int_L1_B (os vs : List AV) (μ : AMem) : Option Res := joinK [(5, .i .i64)] vs (envO [0, 1] os) fun e => den Try.prog G16 Try.f16.ntmps (cL (cL (cR (cL (cR (cR (bodyOf Try.f16))))))) (aL (aL (aR (aL (aR (aR A16)))))) { ret := R16, exits := [(0, [])] } Res e μ fun ex e μ => some (ex, valsOf (Lv.at { ret := R16, exits := [(0, [])] } [(5, .i .i64)] ex) e, μ)
noncomputable def overdubkeep_Same_int_L1 (os vs : List AV) (μ : AMem) : Option Res := loopA (overdubkeep_Same_int_L1_B os) vs μ
theorem overdubkeep_Same_int_L1_B_eq (s0 : SV) (s1 : SV) (s5 : Int) (μ : AMem) : overdubkeep_Same_int_L1_B [.s s0, .s s1] [.s (.int .i64 s5)] μ =
  (lenS (.s s0)).bind fun l11 =>
  bif decide (s5 < ((l11 : Nat) : Int)) then
  (indS 1 (.s s0) s5 fun p12 =>
    loadAt μ p12 fun v13 =>
    asI .i64 v13 fun n14 =>
    indS 1 (.s s1) s5 fun p15 =>
    loadAt μ p15 fun v16 =>
    asI .i64 v16 fun n17 =>
    bif (n14 != n17) then
    (some (.ret, [.s (.bool false)], μ))
    else
    (some (.normal, [.s (.int .i64 (IntKind.wrap .i64 (s5 + 1)))], μ)))
  else
  (some (.exit 0, [], μ)) := by kernel_rfl
theorem overdubkeep_Same_int_L1_eq (os vs : List AV) (μ : AMem) : overdubkeep_Same_int_L1 os vs μ = (overdubkeep_Same_int_L1_B os vs μ).bind fun r => match r.1 with | .normal => overdubkeep_Same_int_L1 os r.2.1 r.2.2 | _ => some r := loopA_eq _ _ _
theorem overdubkeep_Same_int_eq (p0 : SV) (p1 : SV) (μ : AMem) : overdubkeep_Same_int [.s p0, .s p1] μ =
  (lenS (.s p0)).bind fun l1 =>
  (lenS (.s p1)).bind fun l2 =>
  bif (((l1 : Nat) : Int) != ((l2 : Nat) : Int)) then
  (some (.s (.bool false), μ))
  else
  (seqJ (overdubkeep_Same_int_L1 [.s p0, .s p1] [.s (.int .i64 0)] μ)
    (fun _ _ => none)
    (fun vs3 m4 =>
      headK vs3 fun a8 r9 =>
      asB a8 fun b10 =>
      some (.s (.bool b10), m4))
    (fun d7 vs5 m6 =>
      bif Nat.beq 0 d7 then (some (.s (.bool true), m6)) else (none))) := by kernel_rfl

/-! ### overdub/overdublaw12.RefsOrder -/
noncomputable def G5 : FuncId → FunA := fun g => bif Nat.beq g 8 then refs_New else bif Nat.beq g 7 then overdubkeep_Within else bif Nat.beq g 9 then refs_Table_Add else bif Nat.beq g 11 then refs_Table_Of else bif Nat.beq g 15 then refs_Table_Owned else bif Nat.beq g 16 then overdubkeep_Same_int else bif Nat.beq g 13 then refs_Table_Sum else bif Nat.beq g 12 then overdublaw12_wakes else fun _ _ => none
theorem G5_8 : G5 8 = refs_New := by kernel_rfl
theorem G5_7 : G5 7 = overdubkeep_Within := by kernel_rfl
theorem G5_9 : G5 9 = refs_Table_Add := by kernel_rfl
theorem G5_11 : G5 11 = refs_Table_Of := by kernel_rfl
theorem G5_15 : G5 15 = refs_Table_Owned := by kernel_rfl
theorem G5_16 : G5 16 = overdubkeep_Same_int := by kernel_rfl
theorem G5_13 : G5 13 = refs_Table_Sum := by kernel_rfl
theorem G5_12 : G5 12 = overdublaw12_wakes := by kernel_rfl
def A5 : Ann := .two (.leaf) (.two (.leaf) (.two (.leaf) (.two (.join [(35, .b)] [0, 1, 5, 7] [] (.leaf) (.two (.two (.leaf) (.leaf)) (.leaf))) (.two (.leaf) (.two (.two (.leaf) (.join [(1, .i .i64), (5, .s), (7, .s), (9, .s), (10, .s)] [] [] (.loop [(9, .s), (11, .i .i64)] [0, 1, 5, 7, 10] [0] (.two (.join [(43, .b)] [0, 1, 5, 7, 9, 10, 11] [] (.leaf) (.two (.leaf) (.leaf))) (.two (.join [(0, .s), (1, .i .i64), (5, .s), (7, .s), (9, .s), (10, .s), (11, .i .i64)] [] [] (.leaf) .leaf) (.leaf)))) .leaf)) (.two (.two (.leaf) (.join [(1, .i .i64), (5, .s), (7, .s), (9, .s), (10, .s)] [] [] (.loop [(10, .s), (12, .i .i64)] [1, 5, 7, 9] [2] (.two (.two (.leaf) (.two (.leaf) (.leaf))) (.two (.join [(1, .i .i64), (5, .s), (7, .s), (9, .s), (10, .s), (12, .i .i64)] [] [] (.leaf) .leaf) (.leaf)))) .leaf)) (.two (.leaf) (.two (.join [(92, .b)] [5, 7, 9] [] (.leaf) (.two (.two (.leaf) (.leaf)) (.leaf))) (.two (.two (.leaf) (.join [(5, .s), (7, .s), (9, .s)] [] [] (.loop [(13, .i .i64)] [5, 7, 9] [4] (.two (.two (.leaf) (.two (.leaf) (.leaf))) (.two (.join [(5, .s), (7, .s), (9, .s), (13, .i .i64)] [] [] (.two (.leaf) (.two (.two (.leaf) (.leaf)) (.leaf))) .leaf) (.leaf)))) .leaf)) (.two (.leaf) (.leaf)))))))))))
def R5 : Slots := [(4, .b)]
noncomputable def overdublaw12_RefsOrder : FunA := denF Try.prog G5 Try.f5 A5 R5
noncomputable def overdublaw12_RefsOrder_L3_B (os vs : List AV) (μ : AMem) : Option Res := joinK [(13, .i .i64)] vs (envO [5, 7, 9] os) fun e => den Try.prog G5 Try.f5.ntmps (cL (cL (cR (cL (cR (cR (cR (cR (cR (cR (cR (cR (cR (bodyOf Try.f5)))))))))))))) (aL (aL (aR (aL (aR (aR (aR (aR (aR (aR (aR (aR (aR A5))))))))))))) { ret := R5, exits := [(4, [(5, .s), (7, .s), (9, .s)])] } Res e μ fun ex e μ => some (ex, valsOf (Lv.at { ret := R5, exits := [(4, [(5, .s), (7, .s), (9, .s)])] } [(13, .i .i64)] ex) e, μ)
noncomputable def overdublaw12_RefsOrder_L3 (os vs : List AV) (μ : AMem) : Option Res := loopA (overdublaw12_RefsOrder_L3_B os) vs μ
noncomputable def overdublaw12_RefsOrder_L2_B (os vs : List AV) (μ : AMem) : Option Res := joinK [(10, .s), (12, .i .i64)] vs (envO [1, 5, 7, 9] os) fun e => den Try.prog G5 Try.f5.ntmps (cL (cL (cR (cL (cR (cR (cR (cR (cR (cR (bodyOf Try.f5))))))))))) (aL (aL (aR (aL (aR (aR (aR (aR (aR (aR A5)))))))))) { ret := R5, exits := [(2, [(1, .i .i64), (5, .s), (7, .s), (9, .s), (10, .s)])] } Res e μ fun ex e μ => some (ex, valsOf (Lv.at { ret := R5, exits := [(2, [(1, .i .i64), (5, .s), (7, .s), (9, .s), (10, .s)])] } [(10, .s), (12, .i .i64)] ex) e, μ)
noncomputable def overdublaw12_RefsOrder_L2 (os vs : List AV) (μ : AMem) : Option Res := loopA (overdublaw12_RefsOrder_L2_B os) vs μ
noncomputable def overdublaw12_RefsOrder_L1_B (os vs : List AV) (μ : AMem) : Option Res := joinK [(9, .s), (11, .i .i64)] vs (envO [0, 1, 5, 7, 10] os) fun e => den Try.prog G5 Try.f5.ntmps (cL (cL (cR (cL (cR (cR (cR (cR (cR (bodyOf Try.f5)))))))))) (aL (aL (aR (aL (aR (aR (aR (aR (aR A5))))))))) { ret := R5, exits := [(0, [(1, .i .i64), (5, .s), (7, .s), (9, .s), (10, .s)])] } Res e μ fun ex e μ => some (ex, valsOf (Lv.at { ret := R5, exits := [(0, [(1, .i .i64), (5, .s), (7, .s), (9, .s), (10, .s)])] } [(9, .s), (11, .i .i64)] ex) e, μ)
noncomputable def overdublaw12_RefsOrder_L1 (os vs : List AV) (μ : AMem) : Option Res := loopA (overdublaw12_RefsOrder_L1_B os) vs μ
theorem overdublaw12_RefsOrder_L3_B_eq (s5 : SV) (s7 : SV) (s9 : SV) (s13 : Int) (μ : AMem) : overdublaw12_RefsOrder_L3_B [.s s5, .s s7, .s s9] [.s (.int .i64 s13)] μ =
  bif decide (s13 < 9) then
  ((refs_Table_Of [.s s5, .s (.int .i64 s13)] μ).bind fun r157 =>
    asI .i64 r157.1 fun n158 =>
    (refs_Table_Of [.s s7, .s (.int .i64 s13)] r157.2).bind fun r159 =>
    asI .i64 r159.1 fun n160 =>
    bif (n158 != n160) then
    (some (.ret, [.s (.bool false)], r159.2))
    else
    (some (.normal, [.s (.int .i64 (IntKind.wrap .i64 (s13 + 1)))], r159.2)))
  else
  (some (.exit 4, [.s s5, .s s7, .s s9], μ)) := by rw [← G5_11]; kernel_rfl
theorem overdublaw12_RefsOrder_L3_eq (os vs : List AV) (μ : AMem) : overdublaw12_RefsOrder_L3 os vs μ = (overdublaw12_RefsOrder_L3_B os vs μ).bind fun r => match r.1 with | .normal => overdublaw12_RefsOrder_L3 os r.2.1 r.2.2 | _ => some r := loopA_eq _ _ _
theorem overdublaw12_RefsOrder_L2_B_eq (s1 : Int) (s5 : SV) (s7 : SV) (s9 : SV) (s10 : SV) (s12 : Int) (μ : AMem) : overdublaw12_RefsOrder_L2_B [.s (.int .i64 s1), .s s5, .s s7, .s s9] [.s s10, .s (.int .i64 s12)] μ =
  bif decide (s12 ≥ 0) then
  (indS 1 (.s s9) s12 fun p151 =>
    loadAt (μ.bump 8) p151 fun v152 =>
    asI .i64 v152 fun n153 =>
    appendA 3 1 8 (μ.next + 6) ((μ.bump 8).set (μ.next + 5) (rowObj [.int .i64 n153] 1 3 (some 1))) (.s s10) (.s (.slice (μ.next + 5) 0 0 1)) fun x154 m155 =>
    asS x154 fun x156 =>
    some (.normal, [.s x156, .s (.int .i64 (IntKind.wrap .i64 (s12 - 1)))], m155))
  else
  (some (.exit 2, [.s (.int .i64 s1), .s s5, .s s7, .s s9, .s s10], μ)) := by kernel_rfl
theorem overdublaw12_RefsOrder_L2_eq (os vs : List AV) (μ : AMem) : overdublaw12_RefsOrder_L2 os vs μ = (overdublaw12_RefsOrder_L2_B os vs μ).bind fun r => match r.1 with | .normal => overdublaw12_RefsOrder_L2 os r.2.1 r.2.2 | _ => some r := loopA_eq _ _ _
theorem overdublaw12_RefsOrder_L1_B_eq (s0 : SV) (s1 : Int) (s5 : SV) (s7 : SV) (s10 : SV) (s9 : SV) (s11 : Int) (μ : AMem) : overdublaw12_RefsOrder_L1_B [.s s0, .s (.int .i64 s1), .s s5, .s s7, .s s10] [.s s9, .s (.int .i64 s11)] μ =
  seqJ
  ((lenS (.s s0)).bind fun l129 =>
    bif decide (s11 < ((l129 : Nat) : Int)) then
    (some (.normal, [.s (.bool (decide (s11 < 20)))], μ))
    else
    (some (.normal, [.s (.bool false)], μ)))
  (fun vs130 m131 =>
    headK vs130 fun a132 r133 =>
    asB a132 fun b134 =>
    bif b134 then
    (indS 1 (.s s0) s11 fun p135 =>
      loadAt (m131.bump 9) p135 fun v136 =>
      asI .i64 v136 fun n137 =>
      (overdubkeep_Within [.s (.int .i64 n137), .s (.int .i64 9)] (m131.bump 9)).bind fun r138 =>
      asI .i64 r138.1 fun n139 =>
      appendA 3 1 8 (m131.next + 7) (r138.2.set (m131.next + 6) (rowObj [.int .i64 n139] 1 3 (some 1))) (.s s9) (.s (.slice (m131.next + 6) 0 0 1)) fun x140 m141 =>
      asS x140 fun x142 =>
      some (.normal, [.s x142, .s (.int .i64 (IntKind.wrap .i64 (s11 + 1)))], m141))
    else
    (some (.exit 0, [.s (.int .i64 s1), .s s5, .s s7, .s s9, .s s10], m131)))
  (fun vs143 m144 =>
    headK vs143 fun a148 r149 =>
    asB a148 fun b150 =>
    some (.ret, [.s (.bool b150)], m144))
  (fun d147 vs145 m146 =>
    none) := by rw [← G5_7]; kernel_rfl
theorem overdublaw12_RefsOrder_L1_eq (os vs : List AV) (μ : AMem) : overdublaw12_RefsOrder_L1 os vs μ = (overdublaw12_RefsOrder_L1_B os vs μ).bind fun r => match r.1 with | .normal => overdublaw12_RefsOrder_L1 os r.2.1 r.2.2 | _ => some r := loopA_eq _ _ _
theorem overdublaw12_RefsOrder_eq (p0 : SV) (p1 : Int) (μ : AMem) : overdublaw12_RefsOrder [.s p0, .s (.int .i64 p1)] μ =
  (refs_New [.s (.int .i64 9)] μ).bind fun r1 =>
  extrK 0 r1.1 fun t2 =>
  asS t2 fun x3 =>
  extrK 1 r1.1 fun t4 =>
  asI .i64 t4 fun n5 =>
  (refs_New [.s (.int .i64 9)] r1.2).bind fun r6 =>
  extrK 0 r6.1 fun t7 =>
  asS t7 fun x8 =>
  extrK 1 r6.1 fun t9 =>
  asI .i64 t9 fun n10 =>
  seqJ
  (bif !(n5 != 0) then
    (bif !(n10 != 0) then
      ((isNil (.s x3)).bind fun b11 =>
        bif !b11 then
        ((isNil (.s x8)).bind fun b12 =>
          some (.normal, [.s (.bool b12)], r6.2))
        else
        (some (.normal, [.s (.bool true)], r6.2)))
      else
      (some (.normal, [.s (.bool true)], r6.2)))
    else
    (some (.normal, [.s (.bool true)], r6.2)))
  (fun vs13 m14 =>
    headK vs13 fun a15 r16 =>
    asB a15 fun b17 =>
    bif b17 then
    (some (.s (.bool false), m14))
    else
    (seqJ (overdublaw12_RefsOrder_L1 [.s p0, .s (.int .i64 p1), .s x3, .s x8, .s .nilSlice] [.s .nilSlice, .s (.int .i64 0)] m14)
      (fun _ _ => none)
      (fun vs18 m19 =>
        headK vs18 fun a23 r24 =>
        asB a23 fun b25 =>
        some (.s (.bool b25), m19))
      (fun d22 vs20 m21 =>
        bif Nat.beq 0 d22 then (headK vs20 fun a26 r27 =>
          asI .i64 a26 fun n28 =>
          headK r27 fun a29 r30 =>
          asS a29 fun x31 =>
          headK r30 fun a32 r33 =>
          asS a32 fun x34 =>
          headK r33 fun a35 r36 =>
          asS a35 fun x37 =>
          headK r36 fun a38 r39 =>
          asS a38 fun x40 =>
          (lenS (.s x37)).bind fun l41 =>
          seqJ (overdublaw12_RefsOrder_L2 [.s (.int .i64 n28), .s x31, .s x34, .s x37] [.s x40, .s (.int .i64 (IntKind.wrap .i64 (((l41 : Nat) : Int) - 1)))] m21)
          (fun _ _ => none)
          (fun vs42 m43 =>
            headK vs42 fun a47 r48 =>
            asB a47 fun b49 =>
            some (.s (.bool b49), m43))
          (fun d46 vs44 m45 =>
            bif Nat.beq 2 d46 then (headK vs44 fun a50 r51 =>
              asI .i64 a50 fun n52 =>
              headK r51 fun a53 r54 =>
              asS a53 fun x55 =>
              headK r54 fun a56 r57 =>
              asS a56 fun x58 =>
              headK r57 fun a59 r60 =>
              asS a59 fun x61 =>
              headK r60 fun a62 r63 =>
              asS a62 fun x64 =>
              (lenS (.s x64)).bind fun l65 =>
              (overdubkeep_Within [.s (.int .i64 n52), .s (.int .i64 (IntKind.wrap .i64 (((l65 : Nat) : Int) + 1)))] m45).bind fun r66 =>
              asI .i64 r66.1 fun n67 =>
              seqJ
              ((refs_Table_Add [.s x55, .s x61] r66.2).bind fun r68 =>
                asB r68.1 fun b69 =>
                bif !(!b69) then
                (cutS 1 (.s x64) 0 n67 fun x70 =>
                  (refs_Table_Add [.s x58, x70] r68.2).bind fun r71 =>
                  asB r71.1 fun b72 =>
                  bif !(!b72) then
                  ((lenS (.s x64)).bind fun l73 =>
                    cutS 1 (.s x64) n67 ((l73 : Nat) : Int) fun x74 =>
                    (refs_Table_Add [.s x58, x74] r71.2).bind fun r75 =>
                    asB r75.1 fun b76 =>
                    some (.normal, [.s (.bool (!b76))], r75.2))
                  else
                  (some (.normal, [.s (.bool true)], r71.2)))
                else
                (some (.normal, [.s (.bool true)], r68.2)))
              (fun vs77 m78 =>
                headK vs77 fun a79 r80 =>
                asB a79 fun b81 =>
                bif b81 then
                (some (.s (.bool false), m78))
                else
                (seqJ (overdublaw12_RefsOrder_L3 [.s x55, .s x58, .s x61] [.s (.int .i64 0)] m78)
                  (fun _ _ => none)
                  (fun vs82 m83 =>
                    headK vs82 fun a87 r88 =>
                    asB a87 fun b89 =>
                    some (.s (.bool b89), m83))
                  (fun d86 vs84 m85 =>
                    bif Nat.beq 4 d86 then (headK vs84 fun a90 r91 =>
                      asS a90 fun x92 =>
                      headK r91 fun a93 r94 =>
                      asS a93 fun x95 =>
                      headK r94 fun a96 r97 =>
                      asS a96 fun x98 =>
                      (refs_Table_Owned [.s x92] m85).bind fun r99 =>
                      asS r99.1 fun x100 =>
                      (refs_Table_Owned [.s x95] r99.2).bind fun r101 =>
                      asS r101.1 fun x102 =>
                      (overdubkeep_Same_int [.s x100, .s x102] r101.2).bind fun r103 =>
                      asB r103.1 fun b104 =>
                      bif b104 then
                      ((refs_Table_Sum [.s x92] r103.2).bind fun r105 =>
                        asI .i64 r105.1 fun n106 =>
                        (lenS (.s x98)).bind fun l107 =>
                        bif (n106 == ((l107 : Nat) : Int)) then
                        ((refs_Table_Sum [.s x95] r105.2).bind fun r108 =>
                          asI .i64 r108.1 fun n109 =>
                          (lenS (.s x98)).bind fun l110 =>
                          bif (n109 == ((l110 : Nat) : Int)) then
                          ((overdublaw12_wakes [] r108.2).bind fun r111 =>
                            asB r111.1 fun b112 =>
                            some (.s (.bool b112), r111.2))
                          else
                          (some (.s (.bool false), r108.2)))
                        else
                        (some (.s (.bool false), r105.2)))
                      else
                      (some (.s (.bool false), r103.2))) else (none))))
              (fun vs113 m114 =>
                headK vs113 fun a118 r119 =>
                asB a118 fun b120 =>
                some (.s (.bool b120), m114))
              (fun d117 vs115 m116 =>
                none)) else (none))) else (none))))
  (fun vs121 m122 =>
    headK vs121 fun a126 r127 =>
    asB a126 fun b128 =>
    some (.s (.bool b128), m122))
  (fun d125 vs123 m124 =>
    none) := by rw [← G5_8, ← G5_7, ← G5_9, ← G5_15, ← G5_16, ← G5_13, ← G5_12]; kernel_rfl

/-! ### overdub/overdubkeep.Cut[int] -/
noncomputable def G20 : FuncId → FunA := fun _ _ _ => none
def A20 : Ann := .two (.leaf) (.two (.leaf) (.leaf))
def R20 : Slots := [(4, .s)]
noncomputable def overdubkeep_Cut_int : FunA := denF Try.prog G20 Try.f20 A20 R20
theorem overdubkeep_Cut_int_eq (p0 : SV) (p1 : Int) (μ : AMem) : overdubkeep_Cut_int [.s p0, .s (.int .i64 p1)] μ =
  (lenS (.s p0)).bind fun l1 =>
  cutS 1 (.s p0) 0 (if p1 < ((l1 : Nat) : Int) then p1 else ((l1 : Nat) : Int)) fun x2 =>
  some (x2, μ) := by kernel_rfl

/-! ### overdub/overdublaw12.play -/
noncomputable def G17 : FuncId → FunA := fun g => bif Nat.beq g 7 then overdubkeep_Within else bif Nat.beq g 10 then refs_Table_Drop else bif Nat.beq g 20 then overdubkeep_Cut_int else bif Nat.beq g 9 then refs_Table_Add else bif Nat.beq g 11 then refs_Table_Of else bif Nat.beq g 15 then refs_Table_Owned else bif Nat.beq g 16 then overdubkeep_Same_int else bif Nat.beq g 13 then refs_Table_Sum else fun _ _ => none
theorem G17_7 : G17 7 = overdubkeep_Within := by kernel_rfl
theorem G17_10 : G17 10 = refs_Table_Drop := by kernel_rfl
theorem G17_20 : G17 20 = overdubkeep_Cut_int := by kernel_rfl
theorem G17_9 : G17 9 = refs_Table_Add := by kernel_rfl
theorem G17_11 : G17 11 = refs_Table_Of := by kernel_rfl
theorem G17_15 : G17 15 = refs_Table_Owned := by kernel_rfl
theorem G17_16 : G17 16 = overdubkeep_Same_int := by kernel_rfl
theorem G17_13 : G17 13 = refs_Table_Sum := by kernel_rfl
def A17 : Ann := .two (.leaf) (.two (.two (.leaf) (.join [] [] [] (.loop [(7, .i .i64)] [0, 1, 2] [0] (.two (.join [(27, .b)] [0, 1, 2, 7] [] (.leaf) (.two (.leaf) (.leaf))) (.two (.join [(0, .s), (1, .s), (2, .s), (7, .i .i64)] [] [] (.two (.leaf) (.join [] [0, 1, 2, 7] [] (.two (.leaf) (.two (.join [(9, .b)] [0, 1, 2, 7, 8] [] (.leaf) (.two (.leaf) (.join [(10, .i .i64)] [0, 1, 2, 7, 8, 9] [] (.two (.leaf) (.two (.two (.leaf) (.leaf)) (.leaf))) (.two (.leaf) (.join [(83, .b)] [0, 1, 2, 7] [] (.leaf) (.two (.two (.leaf) (.leaf)) (.leaf))))))) (.two (.leaf) (.two (.leaf) (.two (.two (.leaf) (.join [(0, .s), (1, .s), (2, .s), (7, .i .i64), (13, .s), (14, .b)] [] [] (.loop [(14, .b), (89, .i .i64)] [0, 1, 2, 7, 13, 88] [2] (.two (.leaf) (.two (.two (.leaf) (.leaf)) (.join [(14, .b)] [0, 1, 2, 7, 13, 88, 89] [] (.join [(0, .s), (1, .s), (2, .s), (7, .i .i64), (13, .s), (14, .b), (88, .i .i64), (89, .i .i64)] [] [] (.two (.leaf) (.leaf)) .leaf) (.leaf))))) .leaf)) (.two (.two (.leaf) (.two (.two (.leaf) (.leaf)) (.leaf))) (.two (.leaf) (.join [(0, .s), (1, .s), (2, .s), (7, .i .i64)] [] [] (.loop [(16, .i .i64)] [0, 1, 2, 7, 13, 14] [4] (.two (.join [(121, .b)] [0, 1, 2, 7, 13, 14, 16] [] (.leaf) (.two (.leaf) (.leaf))) (.two (.join [(0, .s), (1, .s), (2, .s), (7, .i .i64), (13, .s), (14, .b), (16, .i .i64)] [] [] (.leaf) .leaf) (.leaf)))) .leaf)))))))) (.two (.leaf) (.two (.leaf) (.two (.two (.leaf) (.join [(0, .s), (1, .s), (2, .s), (7, .i .i64), (17, .s), (18, .i .i64)] [] [] (.loop [(17, .s), (18, .i .i64), (135, .i .i64)] [0, 1, 2, 7, 134] [6] (.two (.leaf) (.two (.two (.leaf) (.leaf)) (.two (.join [(0, .s), (1, .s), (2, .s), (7, .i .i64), (17, .s), (18, .i .i64), (134, .i .i64), (135, .i .i64)] [] [] (.two (.leaf) (.two (.two (.ord [0, 1, 3, 4, 5, 6, 2, 7]) (.two (.two (.leaf) (.leaf)) (.leaf))) (.join [(17, .s)] [0, 1, 2, 7, 18, 19, 134, 135] [] (.two (.leaf) (.two (.leaf) (.leaf))) (.leaf)))) .leaf) (.leaf))))) .leaf)) (.join [(184, .b)] [0, 1, 2, 7] [] (.leaf) (.two (.two (.leaf) (.leaf)) (.leaf)))))))) .leaf) (.leaf)))) .leaf)) (.two (.leaf) (.leaf)))
def R17 : Slots := [(6, .b)]
noncomputable def overdublaw12_play : FunA := denF Try.prog G17 Try.f17 A17 R17
noncomputable def overdublaw12_play_L4_B (os vs : List AV) (μ : AMem) : Option Res := joinK [(17, .s), (18, .i .i64), (135, .i .i64)] vs (envO [0, 1, 2, 7, 134] os) fun e => den Try.prog G17 Try.f17.ntmps (cL (cL (cR (cL (cR (cR (cR (cR (cL (cL (cR (cL (cL (cR (cL (cR (bodyOf Try.f17))))))))))))))))) (aL (aL (aR (aL (aR (aR (aR (aR (aL (aL (aR (aL (aL (aR (aL (aR A17)))))))))))))))) { ret := R17, exits := [(6, [(0, .s), (1, .s), (2, .s), (7, .i .i64), (17, .s), (18, .i .i64)]), (1, [(0, .s), (1, .s), (2, .s), (7, .i .i64)]), (0, [])] } Res e μ fun ex e μ => some (ex, valsOf (Lv.at { ret := R17, exits := [(6, [(0, .s), (1, .s), (2, .s), (7, .i .i64), (17, .s), (18, .i .i64)]), (1, [(0, .s), (1, .s), (2, .s), (7, .i .i64)]), (0, [])] } [(17, .s), (18, .i .i64), (135, .i .i64)] ex) e, μ)
noncomputable def overdublaw12_play_L4 (os vs : List AV) (μ : AMem) : Option Res := loopA (overdublaw12_play_L4_B os) vs μ
noncomputable def overdublaw12_play_L3_B (os vs : List AV) (μ : AMem) : Option Res := joinK [(16, .i .i64)] vs (envO [0, 1, 2, 7, 13, 14] os) fun e => den Try.prog G17 Try.f17.ntmps (cL (cL (cR (cR (cR (cR (cR (cR (cR (cL (cR (cL (cL (cR (cL (cL (cR (cL (cR (bodyOf Try.f17)))))))))))))))))))) (aL (aL (aR (aR (aR (aR (aR (aR (aR (aL (aR (aL (aL (aR (aL (aL (aR (aL (aR A17))))))))))))))))))) { ret := R17, exits := [(4, [(0, .s), (1, .s), (2, .s), (7, .i .i64)]), (1, [(0, .s), (1, .s), (2, .s), (7, .i .i64)]), (0, [])] } Res e μ fun ex e μ => some (ex, valsOf (Lv.at { ret := R17, exits := [(4, [(0, .s), (1, .s), (2, .s), (7, .i .i64)]), (1, [(0, .s), (1, .s), (2, .s), (7, .i .i64)]), (0, [])] } [(16, .i .i64)] ex) e, μ)
noncomputable def overdublaw12_play_L3 (os vs : List AV) (μ : AMem) : Option Res := loopA (overdublaw12_play_L3_B os) vs μ
noncomputable def overdublaw12_play_L2_B (os vs : List AV) (μ : AMem) : Option Res := joinK [(14, .b), (89, .i .i64)] vs (envO [0, 1, 2, 7, 13, 88] os) fun e => den Try.prog G17 Try.f17.ntmps (cL (cL (cR (cL (cR (cR (cR (cR (cL (cR (cL (cL (cR (cL (cL (cR (cL (cR (bodyOf Try.f17))))))))))))))))))) (aL (aL (aR (aL (aR (aR (aR (aR (aL (aR (aL (aL (aR (aL (aL (aR (aL (aR A17)))))))))))))))))) { ret := R17, exits := [(2, [(0, .s), (1, .s), (2, .s), (7, .i .i64), (13, .s), (14, .b)]), (1, [(0, .s), (1, .s), (2, .s), (7, .i .i64)]), (0, [])] } Res e μ fun ex e μ => some (ex, valsOf (Lv.at { ret := R17, exits := [(2, [(0, .s), (1, .s), (2, .s), (7, .i .i64), (13, .s), (14, .b)]), (1, [(0, .s), (1, .s), (2, .s), (7, .i .i64)]), (0, [])] } [(14, .b), (89, .i .i64)] ex) e, μ)
noncomputable def overdublaw12_play_L2 (os vs : List AV) (μ : AMem) : Option Res := loopA (overdublaw12_play_L2_B os) vs μ
noncomputable def overdublaw12_play_L1_B (os vs : List AV) (μ : AMem) : Option Res := joinK [(7, .i .i64)] vs (envO [0, 1, 2] os) fun e => den Try.prog G17 Try.f17.ntmps (cL (cL (cR (cL (cR (bodyOf Try.f17)))))) (aL (aL (aR (aL (aR A17))))) { ret := R17, exits := [(0, [])] } Res e μ fun ex e μ => some (ex, valsOf (Lv.at { ret := R17, exits := [(0, [])] } [(7, .i .i64)] ex) e, μ)
noncomputable def overdublaw12_play_L1 (os vs : List AV) (μ : AMem) : Option Res := loopA (overdublaw12_play_L1_B os) vs μ
theorem overdublaw12_play_L4_B_eq (s0 t0 u0 : Nat) (s1 : SV) (s2 : SV) (s7 : Int) (s134 : Int) (s17 : SV) (s18 : Int) (s135 : Int) (μ : AMem) : overdublaw12_play_L4_B [.s (.ptr s0 t0 u0), .s s1, .s s2, .s (.int .i64 s7), .s (.int .i64 s134)] [.s s17, .s (.int .i64 s18), .s (.int .i64 s135)] μ =
  bif decide (s135 < s134) then
  (indS 1 (.s s1) s135 fun p253 =>
    loadAt μ p253 fun v254 =>
    asI .i64 v254 fun n255 =>
    (refs_Table_Of [.s (.ptr s0 t0 u0), .s (.int .i64 s135)] μ).bind fun r256 =>
    asI .i64 r256.1 fun n257 =>
    checkA ((loadAt r256.2 p253 some) = some (.s (.int .i64 n255)))
    (bif (n257 != n255) then
      (some (.ret, [.s (.bool false)], r256.2))
      else
      (seqJ
        (indS 1 (.s s1) s135 fun p258 =>
          loadAt r256.2 p258 fun v259 =>
          asI .i64 v259 fun n260 =>
          bif decide (n260 > 0) then
          (appendA 3 1 8 (r256.2.next + 3) ((r256.2.bump 5).set (r256.2.next + 2) (rowObj [.int .i64 s135] 1 3 (some 1))) (.s s17) (.s (.slice (r256.2.next + 2) 0 0 1)) fun x261 m262 =>
            asS x261 fun x263 =>
            some (.normal, [.s x263], m262))
          else
          (some (.normal, [.s s17], r256.2)))
        (fun vs264 m265 =>
          headK vs264 fun a266 r267 =>
          asS a266 fun x268 =>
          indS 1 (.s s1) s135 fun p269 =>
          loadAt m265 p269 fun v270 =>
          asI .i64 v270 fun n271 =>
          some (.normal, [.s x268, .s (.int .i64 (IntKind.wrap .i64 (s18 + n271))), .s (.int .i64 (IntKind.wrap .i64 (s135 + 1)))], m265))
        (fun vs272 m273 =>
          headK vs272 fun a277 r278 =>
          asB a277 fun b279 =>
          some (.ret, [.s (.bool b279)], m273))
        (fun d276 vs274 m275 =>
          none))))
  else
  (some (.exit 6, [.s (.ptr s0 t0 u0), .s s1, .s s2, .s (.int .i64 s7), .s s17, .s (.int .i64 s18)], μ)) := by rw [← G17_11]; kernel_rfl
theorem overdublaw12_play_L4_eq (os vs : List AV) (μ : AMem) : overdublaw12_play_L4 os vs μ = (overdublaw12_play_L4_B os vs μ).bind fun r => match r.1 with | .normal => overdublaw12_play_L4 os r.2.1 r.2.2 | _ => some r := loopA_eq _ _ _
theorem overdublaw12_play_L3_B_eq (s0 : SV) (s1 : SV) (s2 : SV) (s7 : Int) (s13 : SV) (s14 : Bool) (s16 : Int) (μ : AMem) : overdublaw12_play_L3_B [.s s0, .s s1, .s s2, .s (.int .i64 s7), .s s13, .s (.bool s14)] [.s (.int .i64 s16)] μ =
  seqJ
  ((lenS (.s s13)).bind fun l231 =>
    bif decide (s16 < ((l231 : Nat) : Int)) then
    (some (.normal, [.s (.bool s14)], μ))
    else
    (some (.normal, [.s (.bool false)], μ)))
  (fun vs232 m233 =>
    headK vs232 fun a234 r235 =>
    asB a234 fun b236 =>
    bif b236 then
    (indS 1 (.s s13) s16 fun p237 =>
      loadAt m233 p237 fun v238 =>
      asI .i64 v238 fun n239 =>
      indS 1 (.s s1) n239 fun p240 =>
      loadAt m233 p240 fun v241 =>
      asI .i64 v241 fun n242 =>
      indS 1 (.s s1) n239 fun p243 =>
      storeAt 1 m233 p243 (.s (.int .i64 (IntKind.wrap .i64 (n242 + 1)))) fun m244 =>
      some (.normal, [.s (.int .i64 (IntKind.wrap .i64 (s16 + 1)))], m244))
    else
    (some (.exit 4, [.s s0, .s s1, .s s2, .s (.int .i64 s7)], m233)))
  (fun vs245 m246 =>
    headK vs245 fun a250 r251 =>
    asB a250 fun b252 =>
    some (.ret, [.s (.bool b252)], m246))
  (fun d249 vs247 m248 =>
    none) := by kernel_rfl
theorem overdublaw12_play_L3_eq (os vs : List AV) (μ : AMem) : overdublaw12_play_L3 os vs μ = (overdublaw12_play_L3_B os vs μ).bind fun r => match r.1 with | .normal => overdublaw12_play_L3 os r.2.1 r.2.2 | _ => some r := loopA_eq _ _ _
theorem overdublaw12_play_L2_B_eq (s0 t0 u0 : Nat) (s1 : SV) (s2 : SV) (s7 : Int) (s13 : SV) (s88 : Int) (s14 : Bool) (s89 : Int) (μ : AMem) : overdublaw12_play_L2_B [.s (.ptr s0 t0 u0), .s s1, .s s2, .s (.int .i64 s7), .s s13, .s (.int .i64 s88)] [.s (.bool s14), .s (.int .i64 s89)] μ =
  bif decide (s89 < s88) then
  (seqJ
    (bif s14 then
      (indS 1 (.s s13) s89 fun p211 =>
        loadAt μ p211 fun v212 =>
        asI .i64 v212 fun n213 =>
        bif decide (n213 ≥ 0) then
        (indS 1 (.s s13) s89 fun p214 =>
          loadAt μ p214 fun v215 =>
          asI .i64 v215 fun n216 =>
          (lenS (.s s1)).bind fun l217 =>
          some (.normal, [.s (.bool (decide (n216 < ((l217 : Nat) : Int))))], μ))
        else
        (some (.normal, [.s (.bool false)], μ)))
      else
      (some (.normal, [.s (.bool false)], μ)))
    (fun vs218 m219 =>
      headK vs218 fun a220 r221 =>
      asB a220 fun b222 =>
      some (.normal, [.s (.bool b222), .s (.int .i64 (IntKind.wrap .i64 (s89 + 1)))], m219))
    (fun vs223 m224 =>
      headK vs223 fun a228 r229 =>
      asB a228 fun b230 =>
      some (.ret, [.s (.bool b230)], m224))
    (fun d227 vs225 m226 =>
      none))
  else
  (some (.exit 2, [.s (.ptr s0 t0 u0), .s s1, .s s2, .s (.int .i64 s7), .s s13, .s (.bool s14)], μ)) := by kernel_rfl
theorem overdublaw12_play_L2_eq (os vs : List AV) (μ : AMem) : overdublaw12_play_L2 os vs μ = (overdublaw12_play_L2_B os vs μ).bind fun r => match r.1 with | .normal => overdublaw12_play_L2 os r.2.1 r.2.2 | _ => some r := loopA_eq _ _ _
theorem overdublaw12_play_L1_B_eq (s0 t0 u0 : Nat) (s1 : SV) (s2 : SV) (s7 : Int) (μ : AMem) : overdublaw12_play_L1_B [.s (.ptr s0 t0 u0), .s s1, .s s2] [.s (.int .i64 s7)] μ =
  seqJ
  ((lenS (.s s2)).bind fun l9 =>
    bif decide (s7 < ((l9 : Nat) : Int)) then
    (some (.normal, [.s (.bool (decide (s7 < 30)))], μ))
    else
    (some (.normal, [.s (.bool false)], μ)))
  (fun vs10 m11 =>
    headK vs10 fun a12 r13 =>
    asB a12 fun b14 =>
    bif b14 then
    (indS 3 (.s s2) s7 fun p15 =>
      loadsAt (m11.bump 6) 3 p15 fun v16 =>
      storeAt 3 ((m11.bump 6).set (m11.next + 4) (rowObj [.int .i64 0, .int .i64 0, .nilSlice] 3 47 (some 1))) (.s (.ptr (m11.next + 4) 0 0)) v16 fun m17 =>
      seqJ
      ((m17.cell (m11.next + 4) 0 (0 + 0)).bind fun x18 =>
        asI .i64 (.s x18) fun n19 =>
        (overdubkeep_Within [.s (.int .i64 n19), .s (.int .i64 3)] m17).bind fun r20 =>
        asI .i64 r20.1 fun n21 =>
        bif (n21 == 2) then
        (seqJ
          ((r20.2.cell (m11.next + 4) 0 (0 + 1)).bind fun x22 =>
            asI .i64 (.s x22) fun n23 =>
            bif decide (n23 ≥ 0) then
            ((r20.2.cell (m11.next + 4) 0 (0 + 1)).bind fun x24 =>
              asI .i64 (.s x24) fun n25 =>
              (lenS (.s s1)).bind fun l26 =>
              bif decide (n25 < ((l26 : Nat) : Int)) then
              ((r20.2.cell (m11.next + 4) 0 (0 + 1)).bind fun x27 =>
                asI .i64 (.s x27) fun n28 =>
                indS 1 (.s s1) n28 fun p29 =>
                loadAt r20.2 p29 fun v30 =>
                asI .i64 v30 fun n31 =>
                some (.normal, [.s (.bool (decide (n31 > 0)))], r20.2))
              else
              (some (.normal, [.s (.bool false)], r20.2)))
            else
            (some (.normal, [.s (.bool false)], r20.2)))
          (fun vs32 m33 =>
            headK vs32 fun a34 r35 =>
            asB a34 fun b36 =>
            seqJ
            (bif b36 then
              ((m33.cell (m11.next + 4) 0 (0 + 1)).bind fun x37 =>
                asI .i64 (.s x37) fun n38 =>
                indS 1 (.s s1) n38 fun p39 =>
                loadAt m33 p39 fun v40 =>
                asI .i64 v40 fun n41 =>
                indS 1 (.s s1) n38 fun p42 =>
                storeAt 1 m33 p42 (.s (.int .i64 (IntKind.wrap .i64 (n41 - 1)))) fun m43 =>
                (m43.cell (m11.next + 4) 0 (0 + 1)).bind fun x44 =>
                asI .i64 (.s x44) fun n45 =>
                indS 1 (.s s1) n45 fun p46 =>
                loadAt m43 p46 fun v47 =>
                asI .i64 v47 fun n48 =>
                some (.normal, [.s (.int .i64 n48)], m43))
              else
              (some (.normal, [.s (.int .i64 0)], m33)))
            (fun vs49 m50 =>
              headK vs49 fun a51 r52 =>
              asI .i64 a51 fun n53 =>
              (m50.cell (m11.next + 4) 0 (0 + 1)).bind fun x54 =>
              asI .i64 (.s x54) fun n55 =>
              (refs_Table_Drop [.s (.ptr s0 t0 u0), .s (.int .i64 n55)] m50).bind fun r56 =>
              extrK 0 r56.1 fun t57 =>
              asI .i64 t57 fun n58 =>
              extrK 1 r56.1 fun t59 =>
              asB t59 fun b60 =>
              seqJ
              (bif !(!(b60 == b36)) then
                (some (.normal, [.s (.bool (n58 != n53))], r56.2))
                else
                (some (.normal, [.s (.bool true)], r56.2)))
              (fun vs61 m62 =>
                headK vs61 fun a63 r64 =>
                asB a63 fun b65 =>
                bif b65 then
                (some (.ret, [.s (.bool false)], m62))
                else
                (some (.normal, [], m62)))
              (fun vs66 m67 =>
                headK vs66 fun a71 r72 =>
                asB a71 fun b73 =>
                some (.ret, [.s (.bool b73)], m67))
              (fun d70 vs68 m69 =>
                none))
            (fun vs74 m75 =>
              headK vs74 fun a79 r80 =>
              asB a79 fun b81 =>
              some (.ret, [.s (.bool b81)], m75))
            (fun d78 vs76 m77 =>
              none))
          (fun vs82 m83 =>
            headK vs82 fun a87 r88 =>
            asB a87 fun b89 =>
            some (.ret, [.s (.bool b89)], m83))
          (fun d86 vs84 m85 =>
            none))
        else
        ((r20.2.cell (m11.next + 4) 0 (0 + 2)).bind fun x90 =>
          (overdubkeep_Cut_int [.s x90, .s (.int .i64 8)] r20.2).bind fun r91 =>
          asS r91.1 fun x92 =>
          (lenS (.s x92)).bind fun l93 =>
          seqJ (overdublaw12_play_L2 [.s (.ptr s0 t0 u0), .s s1, .s s2, .s (.int .i64 s7), .s x92, .s (.int .i64 ((l93 : Nat) : Int))] [.s (.bool true), .s (.int .i64 0)] r91.2)
          (fun _ _ => none)
          (fun vs94 m95 =>
            headK vs94 fun a99 r100 =>
            asB a99 fun b101 =>
            some (.ret, [.s (.bool b101)], m95))
          (fun d98 vs96 m97 =>
            bif Nat.beq 2 d98 then (headK vs96 fun a102 r103 =>
              asS a102 fun x104 =>
              headK r103 fun a105 r106 =>
              asS a105 fun x107 =>
              headK r106 fun a108 r109 =>
              asS a108 fun x110 =>
              headK r109 fun a111 r112 =>
              asI .i64 a111 fun n113 =>
              headK r112 fun a114 r115 =>
              asS a114 fun x116 =>
              headK r115 fun a117 r118 =>
              asB a117 fun b119 =>
              (refs_Table_Add [.s x104, .s x116] m97).bind fun r120 =>
              asB r120.1 fun b121 =>
              bif (!(b121 == b119)) then
              (some (.ret, [.s (.bool false)], r120.2))
              else
              (seqJ (overdublaw12_play_L3 [.s x104, .s x107, .s x110, .s (.int .i64 n113), .s x116, .s (.bool b119)] [.s (.int .i64 0)] r120.2)
                (fun _ _ => none)
                (fun vs122 m123 =>
                  headK vs122 fun a127 r128 =>
                  asB a127 fun b129 =>
                  some (.ret, [.s (.bool b129)], m123))
                (fun d126 vs124 m125 =>
                  bif Nat.beq 4 d126 then (headK vs124 fun a130 r131 =>
                    asS a130 fun x132 =>
                    headK r131 fun a133 r134 =>
                    asS a133 fun x135 =>
                    headK r134 fun a136 r137 =>
                    asS a136 fun x138 =>
                    headK r137 fun a139 r140 =>
                    asI .i64 a139 fun n141 =>
                    some (.normal, [], m125)) else (none)))) else (none))))
      (fun vs142 m143 =>
        (lenS (.s s1)).bind fun l144 =>
        seqJ (overdublaw12_play_L4 [.s (.ptr s0 t0 u0), .s s1, .s s2, .s (.int .i64 s7), .s (.int .i64 ((l144 : Nat) : Int))] [.s .nilSlice, .s (.int .i64 0), .s (.int .i64 0)] m143)
        (fun _ _ => none)
        (fun vs145 m146 =>
          headK vs145 fun a150 r151 =>
          asB a150 fun b152 =>
          some (.ret, [.s (.bool b152)], m146))
        (fun d149 vs147 m148 =>
          bif Nat.beq 6 d149 then (headK vs147 fun a153 r154 =>
            asS a153 fun x155 =>
            headK r154 fun a156 r157 =>
            asS a156 fun x158 =>
            headK r157 fun a159 r160 =>
            asS a159 fun x161 =>
            headK r160 fun a162 r163 =>
            asI .i64 a162 fun n164 =>
            headK r163 fun a165 r166 =>
            asS a165 fun x167 =>
            headK r166 fun a168 r169 =>
            asI .i64 a168 fun n170 =>
            seqJ
            ((refs_Table_Owned [.s x155] m148).bind fun r171 =>
              asS r171.1 fun x172 =>
              (overdubkeep_Same_int [.s x172, .s x167] r171.2).bind fun r173 =>
              asB r173.1 fun b174 =>
              bif !(!b174) then
              ((refs_Table_Sum [.s x155] r173.2).bind fun r175 =>
                asI .i64 r175.1 fun n176 =>
                bif !(n176 != n170) then
                ((refs_Table_Of [.s x155, .s (.int .i64 (-1))] r175.2).bind fun r177 =>
                  asI .i64 r177.1 fun n178 =>
                  bif !(n178 != 0) then
                  ((lenS (.s x158)).bind fun l179 =>
                    (refs_Table_Of [.s x155, .s (.int .i64 ((l179 : Nat) : Int))] r177.2).bind fun r180 =>
                    asI .i64 r180.1 fun n181 =>
                    some (.normal, [.s (.bool (n181 != 0))], r180.2))
                  else
                  (some (.normal, [.s (.bool true)], r177.2)))
                else
                (some (.normal, [.s (.bool true)], r175.2)))
              else
              (some (.normal, [.s (.bool true)], r173.2)))
            (fun vs182 m183 =>
              headK vs182 fun a184 r185 =>
              asB a184 fun b186 =>
              bif b186 then
              (some (.ret, [.s (.bool false)], m183))
              else
              (some (.normal, [.s (.int .i64 (IntKind.wrap .i64 (n164 + 1)))], m183)))
            (fun vs187 m188 =>
              headK vs187 fun a192 r193 =>
              asB a192 fun b194 =>
              some (.ret, [.s (.bool b194)], m188))
            (fun d191 vs189 m190 =>
              none)) else (none)))
      (fun vs195 m196 =>
        headK vs195 fun a200 r201 =>
        asB a200 fun b202 =>
        some (.ret, [.s (.bool b202)], m196))
      (fun d199 vs197 m198 =>
        none))
    else
    (some (.exit 0, [], m11)))
  (fun vs203 m204 =>
    headK vs203 fun a208 r209 =>
    asB a208 fun b210 =>
    some (.ret, [.s (.bool b210)], m204))
  (fun d207 vs205 m206 =>
    none) := by rw [← G17_7, ← G17_10, ← G17_20, ← G17_9, ← G17_11, ← G17_15, ← G17_16, ← G17_13]; kernel_rfl
theorem overdublaw12_play_L1_eq (os vs : List AV) (μ : AMem) : overdublaw12_play_L1 os vs μ = (overdublaw12_play_L1_B os vs μ).bind fun r => match r.1 with | .normal => overdublaw12_play_L1 os r.2.1 r.2.2 | _ => some r := loopA_eq _ _ _
theorem overdublaw12_play_eq (p0 q0 o0 : Nat) (p1 : SV) (p2 : SV) (μ : AMem) : overdublaw12_play [.s (.ptr p0 q0 o0), .s p1, .s p2] μ =
  seqJ (overdublaw12_play_L1 [.s (.ptr p0 q0 o0), .s p1, .s p2] [.s (.int .i64 0)] μ)
  (fun _ _ => none)
  (fun vs1 m2 =>
    headK vs1 fun a6 r7 =>
    asB a6 fun b8 =>
    some (.s (.bool b8), m2))
  (fun d5 vs3 m4 =>
    bif Nat.beq 0 d5 then (some (.s (.bool true), m4)) else (none)) := by kernel_rfl

/-! ### (*overdub/refs.Table).Clone -/
noncomputable def G18 : FuncId → FunA := fun _ _ _ => none
def A18 : Ann := .two (.leaf) (.two (.leaf) (.leaf))
def R18 : Slots := [(2, .s)]
noncomputable def refs_Table_Clone : FunA := denF Try.prog G18 Try.f18 A18 R18
theorem refs_Table_Clone_eq (p0 q0 o0 : Nat) (μ : AMem) : refs_Table_Clone [.s (.ptr p0 q0 o0)] μ =
  ((μ.bump 8).cell p0 q0 (o0 + 0)).bind fun x1 =>
  appendA 3 1 8 (μ.next + 4) (μ.bump 8) (.s .nilSlice) (.s x1) fun x2 m3 =>
  asS x2 fun x4 =>
  some (.s (.ptr (μ.next + 6) 0 0), (m3.set (μ.next + 6) (rowObj [x4] 1 44 (some 1)))) := by kernel_rfl

/-! ### overdub/overdublaw12.RefsPlays -/
noncomputable def G6 : FuncId → FunA := fun g => bif Nat.beq g 7 then overdubkeep_Within else bif Nat.beq g 8 then refs_New else bif Nat.beq g 12 then overdublaw12_wakes else bif Nat.beq g 17 then overdublaw12_play else bif Nat.beq g 18 then refs_Table_Clone else bif Nat.beq g 14 then overdubkeep_Copy_int else fun _ _ => none
theorem G6_7 : G6 7 = overdubkeep_Within := by kernel_rfl
theorem G6_8 : G6 8 = refs_New := by kernel_rfl
theorem G6_12 : G6 12 = overdublaw12_wakes := by kernel_rfl
theorem G6_17 : G6 17 = overdublaw12_play := by kernel_rfl
theorem G6_18 : G6 18 = refs_Table_Clone := by kernel_rfl
theorem G6_14 : G6 14 = overdubkeep_Copy_int := by kernel_rfl
def A6 : Ann := .two (.leaf) (.join [(0, .i .i64)] [1, 2] [] (.join [(16, .b)] [0, 1, 2] [] (.leaf) (.two (.leaf) (.leaf))) (.two (.leaf) (.two (.join [(29, .b)] [0, 1, 2, 7, 8] [] (.leaf) (.two (.two (.leaf) (.leaf)) (.leaf))) (.two (.leaf) (.two (.join [(53, .b)] [1, 2, 7, 9] [] (.leaf) (.two (.two (.leaf) (.leaf)) (.leaf))) (.two (.leaf) (.two (.leaf) (.leaf))))))))
def R6 : Slots := [(6, .b)]
noncomputable def overdublaw12_RefsPlays : FunA := denF Try.prog G6 Try.f6 A6 R6
theorem overdublaw12_RefsPlays_eq (p0 : Int) (p1 : SV) (p2 : SV) (μ : AMem) : overdublaw12_RefsPlays [.s (.int .i64 p0), .s p1, .s p2] μ =
  seqJ
  (seqJ
    (bif decide (p0 > 20) then
      (some (.normal, [.s (.bool (decide (p0 ≤ 4096)))], μ))
      else
      (some (.normal, [.s (.bool false)], μ)))
    (fun vs1 m2 =>
      headK vs1 fun a3 r4 =>
      asB a3 fun b5 =>
      bif b5 then
      ((overdubkeep_Within [.s (.int .i64 p0), .s (.int .i64 20)] m2).bind fun r6 =>
        asI .i64 r6.1 fun n7 =>
        some (.normal, [.s (.int .i64 n7)], r6.2))
      else
      (some (.normal, [.s (.int .i64 p0)], m2)))
    (fun vs8 m9 =>
      headK vs8 fun a13 r14 =>
      asB a13 fun b15 =>
      some (.ret, [.s (.bool b15)], m9))
    (fun d12 vs10 m11 =>
      none))
  (fun vs16 m17 =>
    headK vs16 fun a18 r19 =>
    asI .i64 a18 fun n20 =>
    (refs_New [.s (.int .i64 n20)] m17).bind fun r21 =>
    extrK 0 r21.1 fun t22 =>
    asS t22 fun x23 =>
    extrK 1 r21.1 fun t24 =>
    asI .i64 t24 fun n25 =>
    seqJ
    (bif !(decide (n20 < 1)) then
      (some (.normal, [.s (.bool (decide (n20 > 4096)))], r21.2))
      else
      (some (.normal, [.s (.bool true)], r21.2)))
    (fun vs26 m27 =>
      headK vs26 fun a28 r29 =>
      asB a28 fun b30 =>
      bif b30 then
      (bif (n25 == 1) then
        ((isNil (.s x23)).bind fun b31 =>
          bif b31 then
          ((overdublaw12_wakes [] m27).bind fun r32 =>
            asB r32.1 fun b33 =>
            some (.s (.bool b33), r32.2))
          else
          (some (.s (.bool false), m27)))
        else
        (some (.s (.bool false), m27)))
      else
      (if 0 ≤ n20 ∧ n20 ≤ n20 ∧ n20 ≤ 9223372036854775807 ∧ (8 : Nat) * n20 ≤ 140737488355328 then
        (seqJ
          (bif !(n25 != 0) then
            ((isNil (.s x23)).bind fun b34 =>
              bif !b34 then
              ((overdublaw12_play [.s x23, .s (.slice (m27.next + 1) 0 0 (Int.toNat n20)), .s p1] ((m27.bump 3).set (m27.next + 1) (rowObj (zerosA [.int .i64 0] (Int.toNat n20)) 1 3 (some (Int.toNat n20))))).bind fun r35 =>
                asB r35.1 fun b36 =>
                some (.normal, [.s (.bool (!b36))], r35.2))
              else
              (some (.normal, [.s (.bool true)], ((m27.bump 3).set (m27.next + 1) (rowObj (zerosA [.int .i64 0] (Int.toNat n20)) 1 3 (some (Int.toNat n20)))))))
            else
            (some (.normal, [.s (.bool true)], ((m27.bump 3).set (m27.next + 1) (rowObj (zerosA [.int .i64 0] (Int.toNat n20)) 1 3 (some (Int.toNat n20)))))))
          (fun vs37 m38 =>
            headK vs37 fun a39 r40 =>
            asB a39 fun b41 =>
            bif b41 then
            (some (.s (.bool false), m38))
            else
            ((refs_Table_Clone [.s x23] m38).bind fun r42 =>
              asS r42.1 fun x43 =>
              (isNil (.s x43)).bind fun b44 =>
              bif (!b44) then
              ((overdubkeep_Copy_int [.s (.slice (m27.next + 1) 0 0 (Int.toNat n20))] r42.2).bind fun r45 =>
                asS r45.1 fun x46 =>
                (overdublaw12_play [.s x43, .s x46, .s p2] r45.2).bind fun r47 =>
                asB r47.1 fun b48 =>
                bif b48 then
                ((overdublaw12_play [.s x23, .s (.slice (m27.next + 1) 0 0 (Int.toNat n20)), .s p1] r47.2).bind fun r49 =>
                  asB r49.1 fun b50 =>
                  bif b50 then
                  ((overdublaw12_wakes [] r49.2).bind fun r51 =>
                    asB r51.1 fun b52 =>
                    some (.s (.bool b52), r51.2))
                  else
                  (some (.s (.bool false), r49.2)))
                else
                (some (.s (.bool false), r47.2)))
              else
              (some (.s (.bool false), r42.2))))
          (fun vs53 m54 =>
            headK vs53 fun a58 r59 =>
            asB a58 fun b60 =>
            some (.s (.bool b60), m54))
          (fun d57 vs55 m56 =>
            none)) else none))
    (fun vs61 m62 =>
      headK vs61 fun a66 r67 =>
      asB a66 fun b68 =>
      some (.s (.bool b68), m62))
    (fun d65 vs63 m64 =>
      none))
  (fun vs69 m70 =>
    headK vs69 fun a74 r75 =>
    asB a74 fun b76 =>
    some (.s (.bool b76), m70))
  (fun d73 vs71 m72 =>
    none) := by rw [← G6_7, ← G6_8, ← G6_12, ← G6_17, ← G6_18, ← G6_14]; kernel_rfl

end Go.Proofs.Ytmmikeabacodnaa
