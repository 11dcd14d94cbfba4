/- The Go functions as plain functions over abstract memory, and what each comes to. -/
import Derived.Test.YtchapaejdgnihaaProg
import Derived.KernelRfl
import Derived.Test.YtchapaejdgnihaaE0
namespace Go.Proofs.Ytchapaejdgnihaa
open Go Go.Proofs.Ytchapaejdgnihaa.E
set_option maxRecDepth 100000
set_option linter.unusedVariables false
/-! ### overdub/overdubkeep.Within -/
noncomputable def G9 : FuncId → FunA := fun _ _ _ => none
def A9 : Ann := .two (.leaf) (.two (.two (.leaf) (.two (.two (.leaf) (.leaf)) (.leaf))) (.two (.leaf) (.join [(5, .i .i64)] [] [] (.two (.leaf) (.two (.leaf) (.leaf))) (.two (.leaf) (.leaf)))))
def R9 : Slots := [(4, .i .i64)]
noncomputable def overdubkeep_Within : FunA := denF Try.prog G9 Try.f9 A9 R9
theorem overdubkeep_Within_eq (p0 : Int) (p1 : Int) (μ : AMem) : overdubkeep_Within [.s (.int .i64 p0), .s (.int .i64 p1)] μ =
  bif decide (p1 < 1) then
  (some (.s (.int .i64 0), μ))
  else
  (if p1 = 0 then none else
    (seqJ
      (bif decide ((Int.tmod p0 p1) < 0) then
        (some (.normal, [.s (.int .i64 (IntKind.wrap .i64 ((Int.tmod p0 p1) + p1)))], μ))
        else
        (some (.normal, [.s (.int .i64 (Int.tmod p0 p1))], μ)))
      (fun vs1 m2 =>
        headK vs1 fun a3 r4 =>
        asI .i64 a3 fun n5 =>
        some (.s (.int .i64 n5), m2))
      (fun vs6 m7 =>
        headK vs6 fun a11 r12 =>
        asI .i64 a11 fun n13 =>
        some (.s (.int .i64 n13), m7))
      (fun d10 vs8 m9 =>
        none))) := by kernel_rfl

/-! ### overdub/fixed.Sample -/
noncomputable def G28 : FuncId → FunA := fun _ _ _ => none
def A28 : Ann := .two (.leaf) (.two (.leaf) (.leaf))
def R28 : Slots := [(2, .b)]
noncomputable def fixed_Sample : FunA := denF Try.prog G28 Try.f28 A28 R28
theorem fixed_Sample_eq (p0 : Int) (μ : AMem) : fixed_Sample [.s (.int .i64 p0)] μ =
  bif decide (p0 ≥ (-8388608)) then
  (some (.s (.bool (decide (p0 ≤ 8388607))), μ))
  else
  (some (.s (.bool false), μ)) := by kernel_rfl

/-! ### overdub/fixed.Check -/
noncomputable def G22 : FuncId → FunA := fun g => bif Nat.beq g 28 then fixed_Sample else fun _ _ => none
theorem G22_28 : G22 28 = fixed_Sample := by kernel_rfl
def A22 : Ann := .two (.leaf) (.two (.two (.leaf) (.join [(0, .s)] [] [] (.loop [(7, .i .i64)] [0, 5, 6] [0] (.two (.leaf) (.two (.two (.leaf) (.leaf)) (.two (.join [(0, .s), (5, .s), (6, .i .i64), (7, .i .i64)] [] [] (.two (.leaf) (.two (.leaf) (.two (.two (.leaf) (.leaf)) (.leaf)))) .leaf) (.leaf))))) .leaf)) (.two (.two (.leaf) (.two (.two (.leaf) (.leaf)) (.leaf))) (.two (.leaf) (.leaf))))
def R22 : Slots := [(2, .i .i64)]
noncomputable def fixed_Check : FunA := denF Try.prog G22 Try.f22 A22 R22
noncomputable def fixed_Check_L1_B (os vs : List AV) (μ : AMem) : Option Res := joinK [(7, .i .i64)] vs (envO [0, 5, 6] os) fun e => den Try.prog G22 Try.f22.ntmps (cL (cL (cR (cL (cR (bodyOf Try.f22)))))) (aL (aL (aR (aL (aR A22))))) { ret := R22, exits := [(0, [(0, .s)])] } Res e μ fun ex e μ => some (ex, valsOf (Lv.at { ret := R22, exits := [(0, [(0, .s)])] } [(7, .i .i64)] ex) e, μ)
noncomputable def fixed_Check_L1 (os vs : List AV) (μ : AMem) : Option Res := loopA (fixed_Check_L1_B os) vs μ
theorem fixed_Check_L1_B_eq (s0 : SV) (s5 : SV) (s6 : Int) (s7 : Int) (μ : AMem) : fixed_Check_L1_B [.s s0, .s s5, .s (.int .i64 s6)] [.s (.int .i64 s7)] μ =
  bif decide (s7 < s6) then
  (indS 1 (.s s5) s7 fun p14 =>
    loadAt μ p14 fun v15 =>
    asI .i64 v15 fun n16 =>
    (fixed_Sample [.s (.int .i64 n16)] μ).bind fun r17 =>
    asB r17.1 fun b18 =>
    bif (!b18) then
    (some (.ret, [.s (.int .i64 8)], r17.2))
    else
    (some (.normal, [.s (.int .i64 (IntKind.wrap .i64 (s7 + 1)))], r17.2)))
  else
  (some (.exit 0, [.s s0], μ)) := by rw [← G22_28]; kernel_rfl
theorem fixed_Check_L1_eq (os vs : List AV) (μ : AMem) : fixed_Check_L1 os vs μ = (fixed_Check_L1_B os vs μ).bind fun r => match r.1 with | .normal => fixed_Check_L1 os r.2.1 r.2.2 | _ => some r := loopA_eq _ _ _
theorem fixed_Check_eq (p0 : SV) (μ : AMem) : fixed_Check [.s p0] μ =
  (lenS (.s p0)).bind fun l1 =>
  seqJ (fixed_Check_L1 [.s p0, .s p0, .s (.int .i64 ((l1 : Nat) : Int))] [.s (.int .i64 0)] μ)
  (fun _ _ => none)
  (fun vs2 m3 =>
    headK vs2 fun a7 r8 =>
    asI .i64 a7 fun n9 =>
    some (.s (.int .i64 n9), m3))
  (fun d6 vs4 m5 =>
    bif Nat.beq 0 d6 then (headK vs4 fun a10 r11 =>
      asS a10 fun x12 =>
      (lenS (.s x12)).bind fun l13 =>
      bif decide (((l13 : Nat) : Int) > 64) then
      (some (.s (.int .i64 4), m5))
      else
      (some (.s (.int .i64 0), m5))) else (none)) := by kernel_rfl

/-! ### overdub/fixed.Coefficients -/
noncomputable def G16 : FuncId → FunA := fun _ _ _ => none
def A16 : Ann := .two (.leaf) (.two (.two (.leaf) (.join [] [] [] (.two (.leaf) (.two (.two (.leaf) (.leaf)) (.two (.leaf) (.two (.two (.leaf) (.leaf)) (.two (.leaf) (.two (.two (.leaf) (.leaf)) (.two (.leaf) (.two (.two (.leaf) (.leaf)) (.leaf))))))))) .leaf)) (.two (.leaf) (.leaf)))
def R16 : Slots := [(2, .s)]
noncomputable def fixed_Coefficients : FunA := denF Try.prog G16 Try.f16 A16 R16
theorem fixed_Coefficients_eq (p0 : Int) (μ : AMem) : fixed_Coefficients [.s (.int .i64 p0)] μ =
  bif (p0 == 1) then
  (some (.s (.slice (μ.next + 0) 0 0 1), ((μ.bump 2).set (μ.next + 0) (rowObj [.int .i64 1] 1 3 (some 1)))))
  else
  (bif (p0 == 2) then
    (some (.s (.slice (μ.next + 0) 0 0 2), ((μ.bump 2).set (μ.next + 0) (rowObj [.int .i64 2, .int .i64 (-1)] 1 3 (some 2)))))
    else
    (bif (p0 == 3) then
      (some (.s (.slice (μ.next + 0) 0 0 3), ((μ.bump 2).set (μ.next + 0) (rowObj [.int .i64 3, .int .i64 (-3), .int .i64 1] 1 3 (some 3)))))
      else
      (bif (p0 == 4) then
        (some (.s (.slice (μ.next + 0) 0 0 4), ((μ.bump 2).set (μ.next + 0) (rowObj [.int .i64 4, .int .i64 (-6), .int .i64 4, .int .i64 (-1)] 1 3 (some 4)))))
        else
        (some (.s .nilSlice, μ))))) := by kernel_rfl

/-! ### overdub/fixed.guess -/
noncomputable def G23 : FuncId → FunA := fun _ _ _ => none
def A23 : Ann := .two (.leaf) (.two (.leaf) (.two (.two (.leaf) (.join [(5, .i .i64)] [] [] (.loop [(5, .i .i64), (10, .i .i64)] [0, 8, 9] [0] (.two (.leaf) (.two (.two (.leaf) (.leaf)) (.two (.join [(0, .s), (5, .i .i64), (8, .s), (9, .i .i64), (10, .i .i64)] [] [] (.two (.leaf) (.leaf)) .leaf) (.leaf))))) .leaf)) (.two (.leaf) (.leaf))))
def R23 : Slots := [(4, .i .i64)]
noncomputable def fixed_guess : FunA := denF Try.prog G23 Try.f23 A23 R23
noncomputable def fixed_guess_L1_B (os vs : List AV) (μ : AMem) : Option Res := joinK [(5, .i .i64), (10, .i .i64)] vs (envO [0, 8, 9] os) fun e => den Try.prog G23 Try.f23.ntmps (cL (cL (cR (cL (cR (cR (bodyOf Try.f23))))))) (aL (aL (aR (aL (aR (aR A23)))))) { ret := R23, exits := [(0, [(5, .i .i64)])] } Res e μ fun ex e μ => some (ex, valsOf (Lv.at { ret := R23, exits := [(0, [(5, .i .i64)])] } [(5, .i .i64), (10, .i .i64)] ex) e, μ)
noncomputable def fixed_guess_L1 (os vs : List AV) (μ : AMem) : Option Res := loopA (fixed_guess_L1_B os) vs μ
theorem fixed_guess_L1_B_eq (s0 : SV) (s8 : SV) (s9 : Int) (s5 : Int) (s10 : Int) (μ : AMem) : fixed_guess_L1_B [.s s0, .s s8, .s (.int .i64 s9)] [.s (.int .i64 s5), .s (.int .i64 s10)] μ =
  bif decide (s10 < s9) then
  (indS 1 (.s s8) s10 fun p13 =>
    loadAt μ p13 fun v14 =>
    asI .i64 v14 fun n15 =>
    (lenS (.s s0)).bind fun l16 =>
    indS 1 (.s s0) (IntKind.wrap .i64 ((IntKind.wrap .i64 (((l16 : Nat) : Int) - 1)) - s10)) fun p17 =>
    loadAt μ p17 fun v18 =>
    asI .i64 v18 fun n19 =>
    some (.normal, [.s (.int .i64 (IntKind.wrap .i64 (s5 + (IntKind.wrap .i64 (n15 * n19))))), .s (.int .i64 (IntKind.wrap .i64 (s10 + 1)))], μ))
  else
  (some (.exit 0, [.s (.int .i64 s5)], μ)) := by kernel_rfl
theorem fixed_guess_L1_eq (os vs : List AV) (μ : AMem) : fixed_guess_L1 os vs μ = (fixed_guess_L1_B os vs μ).bind fun r => match r.1 with | .normal => fixed_guess_L1 os r.2.1 r.2.2 | _ => some r := loopA_eq _ _ _
theorem fixed_guess_eq (p0 : SV) (p1 : SV) (μ : AMem) : fixed_guess [.s p0, .s p1] μ =
  (lenS (.s p1)).bind fun l1 =>
  seqJ (fixed_guess_L1 [.s p0, .s p1, .s (.int .i64 ((l1 : Nat) : Int))] [.s (.int .i64 0), .s (.int .i64 0)] μ)
  (fun _ _ => none)
  (fun vs2 m3 =>
    headK vs2 fun a7 r8 =>
    asI .i64 a7 fun n9 =>
    some (.s (.int .i64 n9), m3))
  (fun d6 vs4 m5 =>
    bif Nat.beq 0 d6 then (headK vs4 fun a10 r11 =>
      asI .i64 a10 fun n12 =>
      some (.s (.int .i64 n12), m5)) else (none)) := by kernel_rfl

/-! ### overdub/fixed.Residual -/
noncomputable def G11 : FuncId → FunA := fun g => bif Nat.beq g 22 then fixed_Check else bif Nat.beq g 16 then fixed_Coefficients else bif Nat.beq g 23 then fixed_guess else fun _ _ => none
theorem G11_22 : G11 22 = fixed_Check := by kernel_rfl
theorem G11_16 : G11 16 = fixed_Coefficients := by kernel_rfl
theorem G11_23 : G11 23 = fixed_guess := by kernel_rfl
def A11 : Ann := .two (.leaf) (.two (.join [(21, .b)] [0, 1] [] (.leaf) (.two (.two (.leaf) (.leaf)) (.leaf))) (.two (.two (.leaf) (.two (.leaf) (.two (.two (.leaf) (.leaf)) (.leaf)))) (.two (.leaf) (.two (.leaf) (.two (.two (.leaf) (.join [(8, .s)] [] [] (.loop [(8, .s), (9, .i .i64)] [0, 7] [0] (.two (.two (.leaf) (.two (.leaf) (.leaf))) (.two (.join [(0, .s), (7, .s), (8, .s), (9, .i .i64)] [] [] (.ord [0, 1, 2, 3, 4, 5, 6, 7, 8, 9, 10, 11, 12, 13]) .leaf) (.leaf)))) .leaf)) (.two (.leaf) (.leaf)))))))
def R11 : Slots := [(4, .s), (5, .i .i64)]
noncomputable def fixed_Residual : FunA := denF Try.prog G11 Try.f11 A11 R11
noncomputable def fixed_Residual_L1_B (os vs : List AV) (μ : AMem) : Option Res := joinK [(8, .s), (9, .i .i64)] vs (envO [0, 7] os) fun e => den Try.prog G11 Try.f11.ntmps (cL (cL (cR (cL (cR (cR (cR (cR (cR (bodyOf Try.f11)))))))))) (aL (aL (aR (aL (aR (aR (aR (aR (aR A11))))))))) { ret := R11, exits := [(0, [(8, .s)])] } Res e μ fun ex e μ => some (ex, valsOf (Lv.at { ret := R11, exits := [(0, [(8, .s)])] } [(8, .s), (9, .i .i64)] ex) e, μ)
noncomputable def fixed_Residual_L1 (os vs : List AV) (μ : AMem) : Option Res := loopA (fixed_Residual_L1_B os) vs μ
theorem fixed_Residual_L1_B_eq (s0 : SV) (s7 : SV) (s8 : SV) (s9 : Int) (μ : AMem) : fixed_Residual_L1_B [.s s0, .s s7] [.s s8, .s (.int .i64 s9)] μ =
  (lenS (.s s0)).bind fun l36 =>
  bif decide (s9 < ((l36 : Nat) : Int)) then
  (indS 1 (.s s0) s9 fun p37 =>
    loadAt (μ.bump 14) p37 fun v38 =>
    asI .i64 v38 fun n39 =>
    cutS 1 (.s s0) 0 s9 fun x40 =>
    (fixed_guess [x40, .s s7] (μ.bump 14)).bind fun r41 =>
    asI .i64 r41.1 fun n42 =>
    checkA ((loadAt r41.2 p37 some) = some (.s (.int .i64 n39)))
    (checkA (r41.2.obj (μ.next + 11) = none)
      (appendA 3 1 8 (μ.next + 12) (r41.2.set (μ.next + 11) (rowObj [.int .i64 (IntKind.wrap .i64 (n39 - n42))] 1 3 (some 1))) (.s s8) (.s (.slice (μ.next + 11) 0 0 1)) fun x43 m44 =>
        asS x43 fun x45 =>
        some (.normal, [.s x45, .s (.int .i64 (IntKind.wrap .i64 (s9 + 1)))], m44))))
  else
  (some (.exit 0, [.s s8], μ)) := by rw [← G11_23]; kernel_rfl
theorem fixed_Residual_L1_eq (os vs : List AV) (μ : AMem) : fixed_Residual_L1 os vs μ = (fixed_Residual_L1_B os vs μ).bind fun r => match r.1 with | .normal => fixed_Residual_L1 os r.2.1 r.2.2 | _ => some r := loopA_eq _ _ _
theorem fixed_Residual_eq (p0 : SV) (p1 : Int) (μ : AMem) : fixed_Residual [.s p0, .s (.int .i64 p1)] μ =
  seqJ
  (bif !(decide (p1 < 0)) then
    (bif !(decide (p1 > 4)) then
      ((lenS (.s p0)).bind fun l1 =>
        some (.normal, [.s (.bool (decide (p1 > ((l1 : Nat) : Int))))], μ))
      else
      (some (.normal, [.s (.bool true)], μ)))
    else
    (some (.normal, [.s (.bool true)], μ)))
  (fun vs2 m3 =>
    headK vs2 fun a4 r5 =>
    asB a4 fun b6 =>
    bif b6 then
    (some (.tuple [.s .nilSlice, .s (.int .i64 1)], m3))
    else
    ((fixed_Check [.s p0] m3).bind fun r7 =>
      asI .i64 r7.1 fun n8 =>
      bif (n8 != 0) then
      (some (.tuple [.s .nilSlice, .s (.int .i64 n8)], r7.2))
      else
      ((fixed_Coefficients [.s (.int .i64 p1)] r7.2).bind fun r9 =>
        asS r9.1 fun x10 =>
        seqJ (fixed_Residual_L1 [.s p0, .s x10] [.s .nilSlice, .s (.int .i64 p1)] r9.2)
        (fun _ _ => none)
        (fun vs11 m12 =>
          headK vs11 fun a16 r17 =>
          asS a16 fun x18 =>
          headK r17 fun a19 r20 =>
          asI .i64 a19 fun n21 =>
          some (.tuple [.s x18, .s (.int .i64 n21)], m12))
        (fun d15 vs13 m14 =>
          bif Nat.beq 0 d15 then (headK vs13 fun a22 r23 =>
            asS a22 fun x24 =>
            some (.tuple [.s x24, .s (.int .i64 0)], m14)) else (none)))))
  (fun vs25 m26 =>
    headK vs25 fun a30 r31 =>
    asS a30 fun x32 =>
    headK r31 fun a33 r34 =>
    asI .i64 a33 fun n35 =>
    some (.tuple [.s x32, .s (.int .i64 n35)], m26))
  (fun d29 vs27 m28 =>
    none) := by rw [← G11_22, ← G11_16]; kernel_rfl

/-! ### overdub/overdubkeep.Same[int] -/
noncomputable def G15 : FuncId → FunA := fun _ _ _ => none
def A15 : Ann := .two (.leaf) (.two (.two (.leaf) (.two (.two (.leaf) (.leaf)) (.leaf))) (.two (.two (.leaf) (.join [] [] [] (.loop [(5, .i .i64)] [0, 1] [0] (.two (.two (.leaf) (.two (.leaf) (.leaf))) (.two (.join [(0, .s), (1, .s), (5, .i .i64)] [] [] (.two (.ord [0, 1, 2, 3, 4, 5, 6, 7, 8]) (.two (.two (.leaf) (.leaf)) (.leaf))) .leaf) (.leaf)))) .leaf)) (.two (.leaf) (.leaf))))
def R15 : Slots := [(4, .b)]
noncomputable def overdubkeep_Same_int : FunA := denF Try.prog G15 Try.f15 A15 R15
noncomputable def overdubkeep_Same_int_L1_B (os vs : List AV) (μ : AMem) : Option Res := joinK [(5, .i .i64)] vs (envO [0, 1] os) fun e => den Try.prog G15 Try.f15.ntmps (cL (cL (cR (cL (cR (cR (bodyOf Try.f15))))))) (aL (aL (aR (aL (aR (aR A15)))))) { ret := R15, exits := [(0, [])] } Res e μ fun ex e μ => some (ex, valsOf (Lv.at { ret := R15, exits := [(0, [])] } [(5, .i .i64)] ex) e, μ)
noncomputable def overdubkeep_Same_int_L1 (os vs : List AV) (μ : AMem) : Option Res := loopA (overdubkeep_Same_int_L1_B os) vs μ
theorem overdubkeep_Same_int_L1_B_eq (s0 : SV) (s1 : SV) (s5 : Int) (μ : AMem) : overdubkeep_Same_int_L1_B [.s s0, .s s1] [.s (.int .i64 s5)] μ =
  (lenS (.s s0)).bind fun l11 =>
  bif decide (s5 < ((l11 : Nat) : Int)) then
  (indS 1 (.s s0) s5 fun p12 =>
    loadAt μ p12 fun v13 =>
    asI .i64 v13 fun n14 =>
    indS 1 (.s s1) s5 fun p15 =>
    loadAt μ p15 fun v16 =>
    asI .i64 v16 fun n17 =>
    bif (n14 != n17) then
    (some (.ret, [.s (.bool false)], μ))
    else
    (some (.normal, [.s (.int .i64 (IntKind.wrap .i64 (s5 + 1)))], μ)))
  else
  (some (.exit 0, [], μ)) := by kernel_rfl
theorem overdubkeep_Same_int_L1_eq (os vs : List AV) (μ : AMem) : overdubkeep_Same_int_L1 os vs μ = (overdubkeep_Same_int_L1_B os vs μ).bind fun r => match r.1 with | .normal => overdubkeep_Same_int_L1 os r.2.1 r.2.2 | _ => some r := loopA_eq _ _ _
theorem overdubkeep_Same_int_eq (p0 : SV) (p1 : SV) (μ : AMem) : overdubkeep_Same_int [.s p0, .s p1] μ =
  (lenS (.s p0)).bind fun l1 =>
  (lenS (.s p1)).bind fun l2 =>
  bif (((l1 : Nat) : Int) != ((l2 : Nat) : Int)) then
  (some (.s (.bool false), μ))
  else
  (seqJ (overdubkeep_Same_int_L1 [.s p0, .s p1] [.s (.int .i64 0)] μ)
    (fun _ _ => none)
    (fun vs3 m4 =>
      headK vs3 fun a8 r9 =>
      asB a8 fun b10 =>
      some (.s (.bool b10), m4))
    (fun d7 vs5 m6 =>
      bif Nat.beq 0 d7 then (some (.s (.bool true), m6)) else (none))) := by kernel_rfl

/-! ### overdub/overdublaw05.wakes -/
noncomputable def G10 : FuncId → FunA := fun g => bif Nat.beq g 11 then fixed_Residual else bif Nat.beq g 15 then overdubkeep_Same_int else fun _ _ => none
theorem G10_11 : G10 11 = fixed_Residual := by kernel_rfl
theorem G10_15 : G10 15 = overdubkeep_Same_int := by kernel_rfl
def A10 : Ann := .two (.leaf) (.two (.leaf) (.two (.leaf) (.leaf)))
def R10 : Slots := [(0, .b)]
noncomputable def overdublaw05_wakes : FunA := denF Try.prog G10 Try.f10 A10 R10
theorem overdublaw05_wakes_eq  (μ : AMem) : overdublaw05_wakes [] μ =
  (fixed_Residual [.s (.slice (μ.next + 0) 0 0 3), .s (.int .i64 1)] ((μ.bump 7).set (μ.next + 0) (rowObj [.int .i64 1, .int .i64 2, .int .i64 4] 1 3 (some 3)))).bind fun r1 =>
  extrK 0 r1.1 fun t2 =>
  asS t2 fun x3 =>
  extrK 1 r1.1 fun t4 =>
  asI .i64 t4 fun n5 =>
  bif (n5 == 0) then
  ((overdubkeep_Same_int [.s x3, .s (.slice (r1.2.next + 4) 0 0 2)] ((r1.2.bump 8).set (r1.2.next + 4) (rowObj [.int .i64 1, .int .i64 2] 1 3 (some 2)))).bind fun r6 =>
    asB r6.1 fun b7 =>
    some (.s (.bool b7), r6.2))
  else
  (some (.s (.bool false), (r1.2.bump 8))) := by rw [← G10_11, ← G10_15]; kernel_rfl

/-! ### overdub/overdublaw05.FixedSums -/
noncomputable def G3 : FuncId → FunA := fun g => bif Nat.beq g 9 then overdubkeep_Within else bif Nat.beq g 10 then overdublaw05_wakes else bif Nat.beq g 11 then fixed_Residual else fun _ _ => none
theorem G3_9 : G3 9 = overdubkeep_Within := by kernel_rfl
theorem G3_10 : G3 10 = overdublaw05_wakes := by kernel_rfl
theorem G3_11 : G3 11 = fixed_Residual := by kernel_rfl
def A3 : Ann := .two (.leaf) (.two (.leaf) (.two (.leaf) (.two (.leaf) (.two (.two (.leaf) (.join [(2, .i .i64), (7, .i .i64), (8, .s), (9, .s), (10, .s)] [] [] (.loop [(8, .s), (9, .s), (10, .s), (11, .i .i64)] [0, 1, 2, 7] [0] (.two (.two (.leaf) (.two (.leaf) (.leaf))) (.two (.join [(0, .s), (1, .s), (2, .i .i64), (7, .i .i64), (8, .s), (9, .s), (10, .s), (11, .i .i64)] [] [] (.two (.ord [0, 1, 2, 3, 6, 7, 8, 9, 4, 5, 10, 11, 12, 13]) (.leaf)) .leaf) (.leaf)))) .leaf)) (.two (.two (.leaf) (.two (.two (.leaf) (.leaf)) (.leaf))) (.two (.leaf) (.two (.leaf) (.two (.leaf) (.two (.join [(104, .b)] [14, 16, 18] [] (.leaf) (.two (.two (.leaf) (.leaf)) (.leaf))) (.two (.two (.leaf) (.join [] [] [] (.loop [(107, .i .i64)] [14, 16, 18, 106] [2] (.two (.leaf) (.two (.two (.leaf) (.leaf)) (.two (.join [(14, .s), (16, .s), (18, .s), (106, .i .i64), (107, .i .i64)] [] [] (.two (.leaf) (.two (.ord [0, 1, 2, 3, 4, 5, 6, 7, 8, 9, 10, 11, 12, 13]) (.two (.two (.leaf) (.leaf)) (.leaf)))) .leaf) (.leaf))))) .leaf)) (.two (.leaf) (.leaf))))))))))))
def R3 : Slots := [(6, .b)]
noncomputable def overdublaw05_FixedSums : FunA := denF Try.prog G3 Try.f3 A3 R3
noncomputable def overdublaw05_FixedSums_L2_B (os vs : List AV) (μ : AMem) : Option Res := joinK [(107, .i .i64)] vs (envO [14, 16, 18, 106] os) fun e => den Try.prog G3 Try.f3.ntmps (cL (cL (cR (cL (cR (cR (cR (cR (cR (cR (cR (cR (cR (cR (bodyOf Try.f3))))))))))))))) (aL (aL (aR (aL (aR (aR (aR (aR (aR (aR (aR (aR (aR (aR A3)))))))))))))) { ret := R3, exits := [(2, [])] } Res e μ fun ex e μ => some (ex, valsOf (Lv.at { ret := R3, exits := [(2, [])] } [(107, .i .i64)] ex) e, μ)
noncomputable def overdublaw05_FixedSums_L2 (os vs : List AV) (μ : AMem) : Option Res := loopA (overdublaw05_FixedSums_L2_B os) vs μ
noncomputable def overdublaw05_FixedSums_L1_B (os vs : List AV) (μ : AMem) : Option Res := joinK [(8, .s), (9, .s), (10, .s), (11, .i .i64)] vs (envO [0, 1, 2, 7] os) fun e => den Try.prog G3 Try.f3.ntmps (cL (cL (cR (cL (cR (cR (cR (cR (bodyOf Try.f3))))))))) (aL (aL (aR (aL (aR (aR (aR (aR A3)))))))) { ret := R3, exits := [(0, [(2, .i .i64), (7, .i .i64), (8, .s), (9, .s), (10, .s)])] } Res e μ fun ex e μ => some (ex, valsOf (Lv.at { ret := R3, exits := [(0, [(2, .i .i64), (7, .i .i64), (8, .s), (9, .s), (10, .s)])] } [(8, .s), (9, .s), (10, .s), (11, .i .i64)] ex) e, μ)
noncomputable def overdublaw05_FixedSums_L1 (os vs : List AV) (μ : AMem) : Option Res := loopA (overdublaw05_FixedSums_L1_B os) vs μ
theorem overdublaw05_FixedSums_L2_B_eq (s14 : SV) (s16 : SV) (s18 : SV) (s106 : Int) (s107 : Int) (μ : AMem) : overdublaw05_FixedSums_L2_B [.s s14, .s s16, .s s18, .s (.int .i64 s106)] [.s (.int .i64 s107)] μ =
  bif decide (s107 < s106) then
  (indS 1 (.s s18) s107 fun p92 =>
    loadAt μ p92 fun v93 =>
    asI .i64 v93 fun n94 =>
    indS 1 (.s s14) s107 fun p95 =>
    loadAt μ p95 fun v96 =>
    asI .i64 v96 fun n97 =>
    indS 1 (.s s16) s107 fun p98 =>
    loadAt μ p98 fun v99 =>
    asI .i64 v99 fun n100 =>
    bif (n94 != (IntKind.wrap .i64 (n97 + n100))) then
    (some (.ret, [.s (.bool false)], μ))
    else
    (some (.normal, [.s (.int .i64 (IntKind.wrap .i64 (s107 + 1)))], μ)))
  else
  (some (.exit 2, [], μ)) := by kernel_rfl
theorem overdublaw05_FixedSums_L2_eq (os vs : List AV) (μ : AMem) : overdublaw05_FixedSums_L2 os vs μ = (overdublaw05_FixedSums_L2_B os vs μ).bind fun r => match r.1 with | .normal => overdublaw05_FixedSums_L2 os r.2.1 r.2.2 | _ => some r := loopA_eq _ _ _
theorem overdublaw05_FixedSums_L1_B_eq (s0 : SV) (s1 : SV) (s2 : Int) (s7 : Int) (s8 : SV) (s9 : SV) (s10 : SV) (s11 : Int) (μ : AMem) : overdublaw05_FixedSums_L1_B [.s s0, .s s1, .s (.int .i64 s2), .s (.int .i64 s7)] [.s s8, .s s9, .s s10, .s (.int .i64 s11)] μ =
  bif decide (s11 < s7) then
  (indS 1 (.s s0) s11 fun p73 =>
    loadAt μ p73 fun v74 =>
    asI .i64 v74 fun n75 =>
    indS 1 (.s s1) s11 fun p76 =>
    loadAt μ p76 fun v77 =>
    asI .i64 v77 fun n78 =>
    (overdubkeep_Within [.s (.int .i64 n75), .s (.int .i64 1048576)] μ).bind fun r79 =>
    asI .i64 r79.1 fun n80 =>
    checkA ((loadAt r79.2 p76 some) = some (.s (.int .i64 n78)))
    ((overdubkeep_Within [.s (.int .i64 n78), .s (.int .i64 1048576)] r79.2).bind fun r81 =>
      asI .i64 r81.1 fun n82 =>
      appendA 3 1 8 (r81.2.next + 3) ((r81.2.bump 17).set (r81.2.next + 2) (rowObj [.int .i64 (IntKind.wrap .i64 (n80 - 524288))] 1 3 (some 1))) (.s s8) (.s (.slice (r81.2.next + 2) 0 0 1)) fun x83 m84 =>
      asS x83 fun x85 =>
      appendA 3 1 8 (r81.2.next + 7) (m84.set (r81.2.next + 6) (rowObj [.int .i64 (IntKind.wrap .i64 (n82 - 524288))] 1 3 (some 1))) (.s s9) (.s (.slice (r81.2.next + 6) 0 0 1)) fun x86 m87 =>
      asS x86 fun x88 =>
      appendA 3 1 8 (r81.2.next + 13) (m87.set (r81.2.next + 12) (rowObj [.int .i64 (IntKind.wrap .i64 ((IntKind.wrap .i64 (n80 - 524288)) + (IntKind.wrap .i64 (n82 - 524288))))] 1 3 (some 1))) (.s s10) (.s (.slice (r81.2.next + 12) 0 0 1)) fun x89 m90 =>
      asS x89 fun x91 =>
      some (.normal, [.s x85, .s x88, .s x91, .s (.int .i64 (IntKind.wrap .i64 (s11 + 1)))], m90)))
  else
  (some (.exit 0, [.s (.int .i64 s2), .s (.int .i64 s7), .s s8, .s s9, .s s10], μ)) := by rw [← G3_9]; kernel_rfl
theorem overdublaw05_FixedSums_L1_eq (os vs : List AV) (μ : AMem) : overdublaw05_FixedSums_L1 os vs μ = (overdublaw05_FixedSums_L1_B os vs μ).bind fun r => match r.1 with | .normal => overdublaw05_FixedSums_L1 os r.2.1 r.2.2 | _ => some r := loopA_eq _ _ _
theorem overdublaw05_FixedSums_eq (p0 : SV) (p1 : SV) (p2 : Int) (μ : AMem) : overdublaw05_FixedSums [.s p0, .s p1, .s (.int .i64 p2)] μ =
  (lenS (.s p0)).bind fun l1 =>
  (lenS (.s p1)).bind fun l2 =>
  (overdubkeep_Within [.s (.int .i64 p2), .s (.int .i64 5)] μ).bind fun r3 =>
  asI .i64 r3.1 fun n4 =>
  seqJ (overdublaw05_FixedSums_L1 [.s p0, .s p1, .s (.int .i64 n4), .s (.int .i64 (if 64 < (if ((l2 : Nat) : Int) < ((l1 : Nat) : Int) then ((l2 : Nat) : Int) else ((l1 : Nat) : Int)) then 64 else (if ((l2 : Nat) : Int) < ((l1 : Nat) : Int) then ((l2 : Nat) : Int) else ((l1 : Nat) : Int))))] [.s .nilSlice, .s .nilSlice, .s .nilSlice, .s (.int .i64 0)] r3.2)
  (fun _ _ => none)
  (fun vs5 m6 =>
    headK vs5 fun a10 r11 =>
    asB a10 fun b12 =>
    some (.s (.bool b12), m6))
  (fun d9 vs7 m8 =>
    bif Nat.beq 0 d9 then (headK vs7 fun a13 r14 =>
      asI .i64 a13 fun n15 =>
      headK r14 fun a16 r17 =>
      asI .i64 a16 fun n18 =>
      headK r17 fun a19 r20 =>
      asS a19 fun x21 =>
      headK r20 fun a22 r23 =>
      asS a22 fun x24 =>
      headK r23 fun a25 r26 =>
      asS a25 fun x27 =>
      bif decide (n18 < n15) then
      ((overdublaw05_wakes [] m8).bind fun r28 =>
        asB r28.1 fun b29 =>
        some (.s (.bool b29), r28.2))
      else
      ((fixed_Residual [.s x21, .s (.int .i64 n15)] m8).bind fun r30 =>
        extrK 0 r30.1 fun t31 =>
        asS t31 fun x32 =>
        extrK 1 r30.1 fun t33 =>
        asI .i64 t33 fun n34 =>
        (fixed_Residual [.s x24, .s (.int .i64 n15)] r30.2).bind fun r35 =>
        extrK 0 r35.1 fun t36 =>
        asS t36 fun x37 =>
        extrK 1 r35.1 fun t38 =>
        asI .i64 t38 fun n39 =>
        (fixed_Residual [.s x27, .s (.int .i64 n15)] r35.2).bind fun r40 =>
        extrK 0 r40.1 fun t41 =>
        asS t41 fun x42 =>
        extrK 1 r40.1 fun t43 =>
        asI .i64 t43 fun n44 =>
        seqJ
        (bif !(n34 != 0) then
          (bif !(n39 != 0) then
            (bif !(n44 != 0) then
              ((lenS (.s x32)).bind fun l45 =>
                (lenS (.s x42)).bind fun l46 =>
                bif !(((l45 : Nat) : Int) != ((l46 : Nat) : Int)) then
                ((lenS (.s x37)).bind fun l47 =>
                  (lenS (.s x42)).bind fun l48 =>
                  some (.normal, [.s (.bool (((l47 : Nat) : Int) != ((l48 : Nat) : Int)))], r40.2))
                else
                (some (.normal, [.s (.bool true)], r40.2)))
              else
              (some (.normal, [.s (.bool true)], r40.2)))
            else
            (some (.normal, [.s (.bool true)], r40.2)))
          else
          (some (.normal, [.s (.bool true)], r40.2)))
        (fun vs49 m50 =>
          headK vs49 fun a51 r52 =>
          asB a51 fun b53 =>
          bif b53 then
          (some (.s (.bool false), m50))
          else
          ((lenS (.s x42)).bind fun l54 =>
            seqJ (overdublaw05_FixedSums_L2 [.s x32, .s x37, .s x42, .s (.int .i64 ((l54 : Nat) : Int))] [.s (.int .i64 0)] m50)
            (fun _ _ => none)
            (fun vs55 m56 =>
              headK vs55 fun a60 r61 =>
              asB a60 fun b62 =>
              some (.s (.bool b62), m56))
            (fun d59 vs57 m58 =>
              bif Nat.beq 2 d59 then ((overdublaw05_wakes [] m58).bind fun r63 =>
                asB r63.1 fun b64 =>
                some (.s (.bool b64), r63.2)) else (none))))
        (fun vs65 m66 =>
          headK vs65 fun a70 r71 =>
          asB a70 fun b72 =>
          some (.s (.bool b72), m66))
        (fun d69 vs67 m68 =>
          none))) else (none)) := by rw [← G3_9, ← G3_10, ← G3_11]; kernel_rfl

/-! ### overdub/overdubkeep.Samples -/
noncomputable def G12 : FuncId → FunA := fun g => bif Nat.beq g 9 then overdubkeep_Within else fun _ _ => none
theorem G12_9 : G12 9 = overdubkeep_Within := by kernel_rfl
def A12 : Ann := .two (.leaf) (.two (.leaf) (.two (.two (.leaf) (.join [(7, .s)] [] [] (.loop [(7, .s), (8, .i .i64)] [0, 1, 2] [0] (.two (.join [(18, .b)] [0, 1, 2, 7, 8] [] (.leaf) (.two (.leaf) (.leaf))) (.two (.join [(0, .s), (1, .i .i64), (2, .b), (7, .s), (8, .i .i64)] [] [] (.two (.leaf) (.join [(9, .i .i64)] [0, 1, 2, 7, 8] [] (.join [(31, .b)] [0, 1, 2, 7, 8, 9] [] (.leaf) (.two (.two (.leaf) (.join [(47, .b)] [0, 1, 2, 7, 8, 9] [] (.leaf) (.two (.leaf) (.leaf)))) (.leaf))) (.leaf))) .leaf) (.leaf)))) .leaf)) (.two (.leaf) (.leaf))))
def R12 : Slots := [(6, .s)]
noncomputable def overdubkeep_Samples : FunA := denF Try.prog G12 Try.f12 A12 R12
noncomputable def overdubkeep_Samples_L1_B (os vs : List AV) (μ : AMem) : Option Res := joinK [(7, .s), (8, .i .i64)] vs (envO [0, 1, 2] os) fun e => den Try.prog G12 Try.f12.ntmps (cL (cL (cR (cL (cR (cR (bodyOf Try.f12))))))) (aL (aL (aR (aL (aR (aR A12)))))) { ret := R12, exits := [(0, [(7, .s)])] } Res e μ fun ex e μ => some (ex, valsOf (Lv.at { ret := R12, exits := [(0, [(7, .s)])] } [(7, .s), (8, .i .i64)] ex) e, μ)
noncomputable def overdubkeep_Samples_L1 (os vs : List AV) (μ : AMem) : Option Res := loopA (overdubkeep_Samples_L1_B os) vs μ
theorem overdubkeep_Samples_L1_B_eq (s0 : SV) (s1 : Int) (s2 : Bool) (s7 : SV) (s8 : Int) (μ : AMem) : overdubkeep_Samples_L1_B [.s s0, .s (.int .i64 s1), .s (.bool s2)] [.s s7, .s (.int .i64 s8)] μ =
  seqJ
  ((lenS (.s s0)).bind fun l12 =>
    bif decide (s8 < ((l12 : Nat) : Int)) then
    (some (.normal, [.s (.bool (decide (s8 < s1)))], μ))
    else
    (some (.normal, [.s (.bool false)], μ)))
  (fun vs13 m14 =>
    headK vs13 fun a15 r16 =>
    asB a15 fun b17 =>
    bif b17 then
    (indS 1 (.s s0) s8 fun p18 =>
      loadAt m14 p18 fun v19 =>
      asI .i64 v19 fun n20 =>
      seqJ
      (seqJ
        (bif !(!s2) then
          (some (.normal, [.s (.bool ((Int.tmod n20 5) != 4))], m14))
          else
          (some (.normal, [.s (.bool true)], m14)))
        (fun vs21 m22 =>
          headK vs21 fun a23 r24 =>
          asB a23 fun b25 =>
          bif b25 then
          ((overdubkeep_Within [.s (.int .i64 (IntKind.wrap .i64 (n20 - (-8388608)))), .s (.int .i64 16777216)] m22).bind fun r26 =>
            asI .i64 r26.1 fun n27 =>
            seqJ
            (indS 1 (.s s0) s8 fun p28 =>
              loadAt r26.2 p28 fun v29 =>
              asI .i64 v29 fun n30 =>
              bif decide (n30 ≥ (-8388608)) then
              (indS 1 (.s s0) s8 fun p31 =>
                loadAt r26.2 p31 fun v32 =>
                asI .i64 v32 fun n33 =>
                some (.normal, [.s (.bool (decide (n33 ≤ 8388607)))], r26.2))
              else
              (some (.normal, [.s (.bool false)], r26.2)))
            (fun vs34 m35 =>
              headK vs34 fun a36 r37 =>
              asB a36 fun b38 =>
              bif b38 then
              (indS 1 (.s s0) s8 fun p39 =>
                loadAt m35 p39 fun v40 =>
                asI .i64 v40 fun n41 =>
                some (.normal, [.s (.int .i64 n41)], m35))
              else
              (some (.normal, [.s (.int .i64 (IntKind.wrap .i64 ((-8388608) + n27)))], m35)))
            (fun vs42 m43 =>
              headK vs42 fun a47 r48 =>
              asS a47 fun x49 =>
              some (.ret, [.s x49], m43))
            (fun d46 vs44 m45 =>
              none))
          else
          (some (.normal, [.s (.int .i64 n20)], m22)))
        (fun vs50 m51 =>
          headK vs50 fun a55 r56 =>
          asS a55 fun x57 =>
          some (.ret, [.s x57], m51))
        (fun d54 vs52 m53 =>
          none))
      (fun vs58 m59 =>
        headK vs58 fun a60 r61 =>
        asI .i64 a60 fun n62 =>
        appendA 3 1 8 (m59.next + 3) ((m59.bump 5).set (m59.next + 2) (rowObj [.int .i64 n62] 1 3 (some 1))) (.s s7) (.s (.slice (m59.next + 2) 0 0 1)) fun x63 m64 =>
        asS x63 fun x65 =>
        some (.normal, [.s x65, .s (.int .i64 (IntKind.wrap .i64 (s8 + 1)))], m64))
      (fun vs66 m67 =>
        headK vs66 fun a71 r72 =>
        asS a71 fun x73 =>
        some (.ret, [.s x73], m67))
      (fun d70 vs68 m69 =>
        none))
    else
    (some (.exit 0, [.s s7], m14)))
  (fun vs74 m75 =>
    headK vs74 fun a79 r80 =>
    asS a79 fun x81 =>
    some (.ret, [.s x81], m75))
  (fun d78 vs76 m77 =>
    none) := by rw [← G12_9]; kernel_rfl
theorem overdubkeep_Samples_L1_eq (os vs : List AV) (μ : AMem) : overdubkeep_Samples_L1 os vs μ = (overdubkeep_Samples_L1_B os vs μ).bind fun r => match r.1 with | .normal => overdubkeep_Samples_L1 os r.2.1 r.2.2 | _ => some r := loopA_eq _ _ _
theorem overdubkeep_Samples_eq (p0 : SV) (p1 : Int) (p2 : Bool) (μ : AMem) : overdubkeep_Samples [.s p0, .s (.int .i64 p1), .s (.bool p2)] μ =
  seqJ (overdubkeep_Samples_L1 [.s p0, .s (.int .i64 p1), .s (.bool p2)] [.s .nilSlice, .s (.int .i64 0)] μ)
  (fun _ _ => none)
  (fun vs1 m2 =>
    headK vs1 fun a6 r7 =>
    asS a6 fun x8 =>
    some (.s x8, m2))
  (fun d5 vs3 m4 =>
    bif Nat.beq 0 d5 then (headK vs3 fun a9 r10 =>
      asS a9 fun x11 =>
      some (.s x11, m4)) else (none)) := by kernel_rfl

/-! ### overdub/overdubkeep.Copy[int] -/
noncomputable def G13 : FuncId → FunA := fun _ _ _ => none
def A13 : Ann := .two (.leaf) (.two (.leaf) (.leaf))
def R13 : Slots := [(2, .s)]
noncomputable def overdubkeep_Copy_int : FunA := denF Try.prog G13 Try.f13 A13 R13
theorem overdubkeep_Copy_int_eq (p0 : SV) (μ : AMem) : overdubkeep_Copy_int [.s p0] μ =
  appendA 3 1 8 (μ.next + 1) (μ.bump 3) (.s .nilSlice) (.s p0) fun x1 m2 =>
  asS x1 fun x3 =>
  some (.s x3, m2) := by kernel_rfl

/-! ### overdub/overdubref05.May -/
noncomputable def G24 : FuncId → FunA := fun _ _ _ => none
def A24 : Ann := .two (.leaf) (.two (.two (.leaf) (.join [(0, .s)] [] [] (.loop [(6, .i .i64)] [0, 5] [0] (.two (.leaf) (.two (.two (.leaf) (.leaf)) (.two (.join [(0, .s), (5, .i .i64), (6, .i .i64)] [] [] (.two (.leaf) (.join [(20, .b)] [0, 5, 6] [] (.leaf) (.two (.two (.leaf) (.leaf)) (.leaf)))) .leaf) (.leaf))))) .leaf)) (.two (.two (.leaf) (.two (.two (.leaf) (.leaf)) (.leaf))) (.two (.leaf) (.leaf))))
def R24 : Slots := [(2, .i .i64)]
noncomputable def overdubref05_May : FunA := denF Try.prog G24 Try.f24 A24 R24
noncomputable def overdubref05_May_L1_B (os vs : List AV) (μ : AMem) : Option Res := joinK [(6, .i .i64)] vs (envO [0, 5] os) fun e => den Try.prog G24 Try.f24.ntmps (cL (cL (cR (cL (cR (bodyOf Try.f24)))))) (aL (aL (aR (aL (aR A24))))) { ret := R24, exits := [(0, [(0, .s)])] } Res e μ fun ex e μ => some (ex, valsOf (Lv.at { ret := R24, exits := [(0, [(0, .s)])] } [(6, .i .i64)] ex) e, μ)
noncomputable def overdubref05_May_L1 (os vs : List AV) (μ : AMem) : Option Res := loopA (overdubref05_May_L1_B os) vs μ
theorem overdubref05_May_L1_B_eq (s0 : SV) (s5 : Int) (s6 : Int) (μ : AMem) : overdubref05_May_L1_B [.s s0, .s (.int .i64 s5)] [.s (.int .i64 s6)] μ =
  bif decide (s6 < s5) then
  (seqJ
    (indS 1 (.s s0) s6 fun p14 =>
      loadAt μ p14 fun v15 =>
      asI .i64 v15 fun n16 =>
      bif !(decide (n16 < (-8388608))) then
      (indS 1 (.s s0) s6 fun p17 =>
        loadAt μ p17 fun v18 =>
        asI .i64 v18 fun n19 =>
        some (.normal, [.s (.bool (decide (n19 > 8388607)))], μ))
      else
      (some (.normal, [.s (.bool true)], μ)))
    (fun vs20 m21 =>
      headK vs20 fun a22 r23 =>
      asB a22 fun b24 =>
      bif b24 then
      (some (.ret, [.s (.int .i64 8)], m21))
      else
      (some (.normal, [.s (.int .i64 (IntKind.wrap .i64 (s6 + 1)))], m21)))
    (fun vs25 m26 =>
      headK vs25 fun a30 r31 =>
      asI .i64 a30 fun n32 =>
      some (.ret, [.s (.int .i64 n32)], m26))
    (fun d29 vs27 m28 =>
      none))
  else
  (some (.exit 0, [.s s0], μ)) := by kernel_rfl
theorem overdubref05_May_L1_eq (os vs : List AV) (μ : AMem) : overdubref05_May_L1 os vs μ = (overdubref05_May_L1_B os vs μ).bind fun r => match r.1 with | .normal => overdubref05_May_L1 os r.2.1 r.2.2 | _ => some r := loopA_eq _ _ _
theorem overdubref05_May_eq (p0 : SV) (μ : AMem) : overdubref05_May [.s p0] μ =
  (lenS (.s p0)).bind fun l1 =>
  seqJ (overdubref05_May_L1 [.s p0, .s (.int .i64 ((l1 : Nat) : Int))] [.s (.int .i64 0)] μ)
  (fun _ _ => none)
  (fun vs2 m3 =>
    headK vs2 fun a7 r8 =>
    asI .i64 a7 fun n9 =>
    some (.s (.int .i64 n9), m3))
  (fun d6 vs4 m5 =>
    bif Nat.beq 0 d6 then (headK vs4 fun a10 r11 =>
      asS a10 fun x12 =>
      (lenS (.s x12)).bind fun l13 =>
      bif decide (((l13 : Nat) : Int) > 64) then
      (some (.s (.int .i64 4), m5))
      else
      (some (.s (.int .i64 0), m5))) else (none)) := by kernel_rfl

/-! ### overdub/overdubref05.Fixed -/
noncomputable def G17 : FuncId → FunA := fun _ _ _ => none
def A17 : Ann := .two (.leaf) (.two (.two (.leaf) (.join [] [] [] (.two (.leaf) (.two (.two (.leaf) (.leaf)) (.two (.leaf) (.two (.two (.leaf) (.leaf)) (.two (.leaf) (.two (.two (.leaf) (.leaf)) (.two (.leaf) (.two (.two (.leaf) (.leaf)) (.leaf))))))))) .leaf)) (.two (.leaf) (.leaf)))
def R17 : Slots := [(2, .s)]
noncomputable def overdubref05_Fixed : FunA := denF Try.prog G17 Try.f17 A17 R17
theorem overdubref05_Fixed_eq (p0 : Int) (μ : AMem) : overdubref05_Fixed [.s (.int .i64 p0)] μ =
  bif (p0 == 1) then
  (some (.s (.slice (μ.next + 0) 0 0 1), ((μ.bump 2).set (μ.next + 0) (rowObj [.int .i64 1] 1 3 (some 1)))))
  else
  (bif (p0 == 2) then
    (some (.s (.slice (μ.next + 0) 0 0 2), ((μ.bump 2).set (μ.next + 0) (rowObj [.int .i64 2, .int .i64 (-1)] 1 3 (some 2)))))
    else
    (bif (p0 == 3) then
      (some (.s (.slice (μ.next + 0) 0 0 3), ((μ.bump 2).set (μ.next + 0) (rowObj [.int .i64 3, .int .i64 (-3), .int .i64 1] 1 3 (some 3)))))
      else
      (bif (p0 == 4) then
        (some (.s (.slice (μ.next + 0) 0 0 4), ((μ.bump 2).set (μ.next + 0) (rowObj [.int .i64 4, .int .i64 (-6), .int .i64 4, .int .i64 (-1)] 1 3 (some 4)))))
        else
        (some (.s .nilSlice, μ))))) := by kernel_rfl

/-! ### overdub/overdubref05.told -/
noncomputable def G25 : FuncId → FunA := fun g => bif Nat.beq g 17 then overdubref05_Fixed else fun _ _ => none
theorem G25_17 : G25 17 = overdubref05_Fixed := by kernel_rfl
def A25 : Ann := .two (.leaf) (.two (.leaf) (.two (.leaf) (.two (.two (.leaf) (.join [(6, .i .i64)] [] [] (.loop [(6, .i .i64), (12, .i .i64)] [0, 5, 11] [0] (.two (.leaf) (.two (.two (.leaf) (.leaf)) (.two (.join [(0, .s), (5, .s), (6, .i .i64), (11, .i .i64), (12, .i .i64)] [] [] (.two (.leaf) (.ord [0, 1, 2, 3, 4, 5, 6, 7, 8, 9, 10, 11, 12, 13, 14, 15])) .leaf) (.leaf))))) .leaf)) (.two (.leaf) (.leaf)))))
def R25 : Slots := [(4, .i .i64)]
noncomputable def overdubref05_told : FunA := denF Try.prog G25 Try.f25 A25 R25
noncomputable def overdubref05_told_L1_B (os vs : List AV) (μ : AMem) : Option Res := joinK [(6, .i .i64), (12, .i .i64)] vs (envO [0, 5, 11] os) fun e => den Try.prog G25 Try.f25.ntmps (cL (cL (cR (cL (cR (cR (cR (bodyOf Try.f25)))))))) (aL (aL (aR (aL (aR (aR (aR A25))))))) { ret := R25, exits := [(0, [(6, .i .i64)])] } Res e μ fun ex e μ => some (ex, valsOf (Lv.at { ret := R25, exits := [(0, [(6, .i .i64)])] } [(6, .i .i64), (12, .i .i64)] ex) e, μ)
noncomputable def overdubref05_told_L1 (os vs : List AV) (μ : AMem) : Option Res := loopA (overdubref05_told_L1_B os) vs μ
theorem overdubref05_told_L1_B_eq (s0 : SV) (s5 : SV) (s11 : Int) (s6 : Int) (s12 : Int) (μ : AMem) : overdubref05_told_L1_B [.s s0, .s s5, .s (.int .i64 s11)] [.s (.int .i64 s6), .s (.int .i64 s12)] μ =
  bif decide (s12 < s11) then
  (indS 1 (.s s5) s12 fun p15 =>
    loadAt μ p15 fun v16 =>
    asI .i64 v16 fun n17 =>
    (lenS (.s s0)).bind fun l18 =>
    indS 1 (.s s0) (IntKind.wrap .i64 ((IntKind.wrap .i64 (((l18 : Nat) : Int) - 1)) - s12)) fun p19 =>
    loadAt μ p19 fun v20 =>
    asI .i64 v20 fun n21 =>
    some (.normal, [.s (.int .i64 (IntKind.wrap .i64 (s6 + (IntKind.wrap .i64 (n17 * n21))))), .s (.int .i64 (IntKind.wrap .i64 (s12 + 1)))], μ))
  else
  (some (.exit 0, [.s (.int .i64 s6)], μ)) := by kernel_rfl
theorem overdubref05_told_L1_eq (os vs : List AV) (μ : AMem) : overdubref05_told_L1 os vs μ = (overdubref05_told_L1_B os vs μ).bind fun r => match r.1 with | .normal => overdubref05_told_L1 os r.2.1 r.2.2 | _ => some r := loopA_eq _ _ _
theorem overdubref05_told_eq (p0 : SV) (p1 : Int) (μ : AMem) : overdubref05_told [.s p0, .s (.int .i64 p1)] μ =
  (overdubref05_Fixed [.s (.int .i64 p1)] μ).bind fun r1 =>
  asS r1.1 fun x2 =>
  (lenS (.s x2)).bind fun l3 =>
  seqJ (overdubref05_told_L1 [.s p0, .s x2, .s (.int .i64 ((l3 : Nat) : Int))] [.s (.int .i64 0), .s (.int .i64 0)] r1.2)
  (fun _ _ => none)
  (fun vs4 m5 =>
    headK vs4 fun a9 r10 =>
    asI .i64 a9 fun n11 =>
    some (.s (.int .i64 n11), m5))
  (fun d8 vs6 m7 =>
    bif Nat.beq 0 d8 then (headK vs6 fun a12 r13 =>
      asI .i64 a12 fun n14 =>
      some (.s (.int .i64 n14), m7)) else (none)) := by rw [← G25_17]; kernel_rfl

/-! ### overdub/overdubref05.Residual -/
noncomputable def G14 : FuncId → FunA := fun g => bif Nat.beq g 24 then overdubref05_May else bif Nat.beq g 25 then overdubref05_told else fun _ _ => none
theorem G14_24 : G14 24 = overdubref05_May := by kernel_rfl
theorem G14_25 : G14 25 = overdubref05_told := by kernel_rfl
def A14 : Ann := .two (.leaf) (.two (.join [(20, .b)] [0, 1] [] (.leaf) (.two (.two (.leaf) (.leaf)) (.leaf))) (.two (.two (.leaf) (.two (.leaf) (.two (.two (.leaf) (.leaf)) (.leaf)))) (.two (.leaf) (.two (.two (.leaf) (.join [(7, .s)] [] [] (.loop [(7, .s), (8, .i .i64)] [0, 1] [0] (.two (.two (.leaf) (.two (.leaf) (.leaf))) (.two (.join [(0, .s), (1, .i .i64), (7, .s), (8, .i .i64)] [] [] (.ord [0, 1, 2, 3, 4, 5, 6, 7, 8, 9, 10, 11, 12, 13]) .leaf) (.leaf)))) .leaf)) (.two (.leaf) (.leaf))))))
def R14 : Slots := [(4, .s), (5, .i .i64)]
noncomputable def overdubref05_Residual : FunA := denF Try.prog G14 Try.f14 A14 R14
noncomputable def overdubref05_Residual_L1_B (os vs : List AV) (μ : AMem) : Option Res := joinK [(7, .s), (8, .i .i64)] vs (envO [0, 1] os) fun e => den Try.prog G14 Try.f14.ntmps (cL (cL (cR (cL (cR (cR (cR (cR (bodyOf Try.f14))))))))) (aL (aL (aR (aL (aR (aR (aR (aR A14)))))))) { ret := R14, exits := [(0, [(7, .s)])] } Res e μ fun ex e μ => some (ex, valsOf (Lv.at { ret := R14, exits := [(0, [(7, .s)])] } [(7, .s), (8, .i .i64)] ex) e, μ)
noncomputable def overdubref05_Residual_L1 (os vs : List AV) (μ : AMem) : Option Res := loopA (overdubref05_Residual_L1_B os) vs μ
theorem overdubref05_Residual_L1_B_eq (s0 : SV) (s1 : Int) (s7 : SV) (s8 : Int) (μ : AMem) : overdubref05_Residual_L1_B [.s s0, .s (.int .i64 s1)] [.s s7, .s (.int .i64 s8)] μ =
  (lenS (.s s0)).bind fun l34 =>
  bif decide (s8 < ((l34 : Nat) : Int)) then
  (indS 1 (.s s0) s8 fun p35 =>
    loadAt (μ.bump 14) p35 fun v36 =>
    asI .i64 v36 fun n37 =>
    cutS 1 (.s s0) 0 s8 fun x38 =>
    (overdubref05_told [x38, .s (.int .i64 s1)] (μ.bump 14)).bind fun r39 =>
    asI .i64 r39.1 fun n40 =>
    checkA ((loadAt r39.2 p35 some) = some (.s (.int .i64 n37)))
    (checkA (r39.2.obj (μ.next + 11) = none)
      (appendA 3 1 8 (μ.next + 12) (r39.2.set (μ.next + 11) (rowObj [.int .i64 (IntKind.wrap .i64 (n37 - n40))] 1 3 (some 1))) (.s s7) (.s (.slice (μ.next + 11) 0 0 1)) fun x41 m42 =>
        asS x41 fun x43 =>
        some (.normal, [.s x43, .s (.int .i64 (IntKind.wrap .i64 (s8 + 1)))], m42))))
  else
  (some (.exit 0, [.s s7], μ)) := by rw [← G14_25]; kernel_rfl
theorem overdubref05_Residual_L1_eq (os vs : List AV) (μ : AMem) : overdubref05_Residual_L1 os vs μ = (overdubref05_Residual_L1_B os vs μ).bind fun r => match r.1 with | .normal => overdubref05_Residual_L1 os r.2.1 r.2.2 | _ => some r := loopA_eq _ _ _
theorem overdubref05_Residual_eq (p0 : SV) (p1 : Int) (μ : AMem) : overdubref05_Residual [.s p0, .s (.int .i64 p1)] μ =
  seqJ
  (bif !(decide (p1 < 0)) then
    (bif !(decide (p1 > 4)) then
      ((lenS (.s p0)).bind fun l1 =>
        some (.normal, [.s (.bool (decide (p1 > ((l1 : Nat) : Int))))], μ))
      else
      (some (.normal, [.s (.bool true)], μ)))
    else
    (some (.normal, [.s (.bool true)], μ)))
  (fun vs2 m3 =>
    headK vs2 fun a4 r5 =>
    asB a4 fun b6 =>
    bif b6 then
    (some (.tuple [.s .nilSlice, .s (.int .i64 1)], m3))
    else
    ((overdubref05_May [.s p0] m3).bind fun r7 =>
      asI .i64 r7.1 fun n8 =>
      bif (n8 != 0) then
      (some (.tuple [.s .nilSlice, .s (.int .i64 n8)], r7.2))
      else
      (seqJ (overdubref05_Residual_L1 [.s p0, .s (.int .i64 p1)] [.s .nilSlice, .s (.int .i64 p1)] r7.2)
        (fun _ _ => none)
        (fun vs9 m10 =>
          headK vs9 fun a14 r15 =>
          asS a14 fun x16 =>
          headK r15 fun a17 r18 =>
          asI .i64 a17 fun n19 =>
          some (.tuple [.s x16, .s (.int .i64 n19)], m10))
        (fun d13 vs11 m12 =>
          bif Nat.beq 0 d13 then (headK vs11 fun a20 r21 =>
            asS a20 fun x22 =>
            some (.tuple [.s x22, .s (.int .i64 0)], m12)) else (none)))))
  (fun vs23 m24 =>
    headK vs23 fun a28 r29 =>
    asS a28 fun x30 =>
    headK r29 fun a31 r32 =>
    asI .i64 a31 fun n33 =>
    some (.tuple [.s x30, .s (.int .i64 n33)], m24))
  (fun d27 vs25 m26 =>
    none) := by rw [← G14_24]; kernel_rfl

/-! ### overdub/overdubkeep.Ruin -/
noncomputable def G18 : FuncId → FunA := fun _ _ _ => none
def A18 : Ann := .two (.wide) (.two (.wide) (.join [] [] [] (.loop [(10, .i .i64)] [2, 9] [0] (.two (.wide) (.two (.two (.leaf) (.leaf)) (.two (.join [(2, .s), (9, .i .i64), (10, .i .i64)] [] [] (.two (.wide) (.wide)) .leaf) (.wide))))) .leaf))
def R18 : Slots := []
noncomputable def overdubkeep_Ruin_D : FunA := denF Try.prog G18 Try.f18 A18 R18
noncomputable def overdubkeep_Ruin : FunA := roomF 3 (.undef) overdubkeep_Ruin_D
noncomputable def overdubkeep_Ruin_L1_B (os vs : List AV) (μ : AMem) : Option Res := joinK [(10, .i .i64)] vs (envO [2, 9] os) fun e => den Try.prog G18 Try.f18.ntmps (cL (cL (cR (cR (bodyOf Try.f18))))) (aL (aL (aR (aR A18)))) { ret := R18, exits := [(0, [])] } Res e μ fun ex e μ => some (ex, valsOf (Lv.at { ret := R18, exits := [(0, [])] } [(10, .i .i64)] ex) e, μ)
noncomputable def overdubkeep_Ruin_L1 (os vs : List AV) (μ : AMem) : Option Res := loopA (overdubkeep_Ruin_L1_B os) vs μ
theorem overdubkeep_Ruin_L1_B_eq (s2 : SV) (s9 : Int) (s10 : Int) (μ : AMem) : overdubkeep_Ruin_L1_B [.s s2, .s (.int .i64 s9)] [.s (.int .i64 s10)] μ =
  bif decide (s10 < s9) then
  (indS 1 (.s s2) s10 fun p10 =>
    storeAt 1 μ p10 (.s (.int .i64 (-77))) fun m11 =>
    some (.normal, [.s (.int .i64 (IntKind.wrap .i64 (s10 + 1)))], m11))
  else
  (some (.exit 0, [], μ)) := by kernel_rfl
theorem overdubkeep_Ruin_L1_eq (os vs : List AV) (μ : AMem) : overdubkeep_Ruin_L1 os vs μ = (overdubkeep_Ruin_L1_B os vs μ).bind fun r => match r.1 with | .normal => overdubkeep_Ruin_L1 os r.2.1 r.2.2 | _ => some r := loopA_eq _ _ _
theorem overdubkeep_Ruin_D_eq (p0 : SV) (μ : AMem) : overdubkeep_Ruin_D [.s p0] μ =
  capA μ (.s p0) fun n1 =>
  asI .i64 n1 fun n2 =>
  cutM 1 μ (.s p0) 0 n2 fun x3 =>
  (lenS x3).bind fun l4 =>
  seqJ (overdubkeep_Ruin_L1 [x3, .s (.int .i64 ((l4 : Nat) : Int))] [.s (.int .i64 0)] μ)
  (fun _ _ => none)
  (fun vs5 m6 =>
    some (.tuple [], m6))
  (fun d9 vs7 m8 =>
    bif Nat.beq 0 d9 then (some (.tuple [], m8)) else (none)) := by kernel_rfl

/-! ### overdub/overdublaw05.FixedResiduals -/
noncomputable def G4 : FuncId → FunA := fun g => bif Nat.beq g 12 then overdubkeep_Samples else bif Nat.beq g 13 then overdubkeep_Copy_int else bif Nat.beq g 11 then fixed_Residual else bif Nat.beq g 14 then overdubref05_Residual else bif Nat.beq g 15 then overdubkeep_Same_int else bif Nat.beq g 16 then fixed_Coefficients else bif Nat.beq g 17 then overdubref05_Fixed else bif Nat.beq g 18 then overdubkeep_Ruin else bif Nat.beq g 10 then overdublaw05_wakes else fun _ _ => none
theorem G4_12 : G4 12 = overdubkeep_Samples := by kernel_rfl
theorem G4_13 : G4 13 = overdubkeep_Copy_int := by kernel_rfl
theorem G4_11 : G4 11 = fixed_Residual := by kernel_rfl
theorem G4_14 : G4 14 = overdubref05_Residual := by kernel_rfl
theorem G4_15 : G4 15 = overdubkeep_Same_int := by kernel_rfl
theorem G4_16 : G4 16 = fixed_Coefficients := by kernel_rfl
theorem G4_17 : G4 17 = overdubref05_Fixed := by kernel_rfl
theorem G4_18 : G4 18 = overdubkeep_Ruin := by kernel_rfl
theorem G4_10 : G4 10 = overdublaw05_wakes := by kernel_rfl
def A4 : Ann := .two (.leaf) (.two (.leaf) (.two (.leaf) (.two (.leaf) (.two (.leaf) (.join [(12, .b)] [0, 7, 8] [] (.leaf) (.two (.leaf) (.two (.leaf) (.leaf))))))))
def R4 : Slots := [(6, .b)]
noncomputable def overdublaw05_FixedResiduals : FunA := denF Try.prog G4 Try.f4 A4 R4
theorem overdublaw05_FixedResiduals_eq (p0 : SV) (p1 : Int) (p2 : Bool) (μ : AMem) : overdublaw05_FixedResiduals [.s p0, .s (.int .i64 p1), .s (.bool p2)] μ =
  (overdubkeep_Samples [.s p0, .s (.int .i64 70), .s (.bool p2)] μ).bind fun r1 =>
  asS r1.1 fun x2 =>
  (overdubkeep_Copy_int [.s x2] r1.2).bind fun r3 =>
  asS r3.1 fun x4 =>
  (fixed_Residual [.s x4, .s (.int .i64 p1)] r3.2).bind fun r5 =>
  extrK 0 r5.1 fun t6 =>
  asS t6 fun x7 =>
  extrK 1 r5.1 fun t8 =>
  asI .i64 t8 fun n9 =>
  (overdubref05_Residual [.s x2, .s (.int .i64 p1)] r5.2).bind fun r10 =>
  extrK 0 r10.1 fun t11 =>
  asS t11 fun x12 =>
  extrK 1 r10.1 fun t13 =>
  asI .i64 t13 fun n14 =>
  seqJ
  (bif (n9 == n14) then
    ((overdubkeep_Same_int [.s x7, .s x12] r10.2).bind fun r15 =>
      asB r15.1 fun b16 =>
      bif b16 then
      ((fixed_Coefficients [.s (.int .i64 p1)] r15.2).bind fun r17 =>
        asS r17.1 fun x18 =>
        (overdubref05_Fixed [.s (.int .i64 p1)] r17.2).bind fun r19 =>
        asS r19.1 fun x20 =>
        (overdubkeep_Same_int [.s x18, .s x20] r19.2).bind fun r21 =>
        asB r21.1 fun b22 =>
        some (.normal, [.s (.bool b22)], r21.2))
      else
      (some (.normal, [.s (.bool false)], r15.2)))
    else
    (some (.normal, [.s (.bool false)], r10.2)))
  (fun vs23 m24 =>
    headK vs23 fun a25 r26 =>
    asB a25 fun b27 =>
    (overdubkeep_Ruin [.s x7] m24).bind fun r28 =>
    bif b27 then
    ((overdubkeep_Same_int [.s x4, .s x2] r28.2).bind fun r29 =>
      asB r29.1 fun b30 =>
      bif b30 then
      ((overdublaw05_wakes [] r29.2).bind fun r31 =>
        asB r31.1 fun b32 =>
        some (.s (.bool b32), r31.2))
      else
      (some (.s (.bool false), r29.2)))
    else
    (some (.s (.bool false), r28.2)))
  (fun vs33 m34 =>
    headK vs33 fun a38 r39 =>
    asB a38 fun b40 =>
    some (.s (.bool b40), m34))
  (fun d37 vs35 m36 =>
    none) := by rw [← G4_12, ← G4_13, ← G4_11, ← G4_14, ← G4_15, ← G4_16, ← G4_17, ← G4_18, ← G4_10]; kernel_rfl

/-! ### overdub/fixed.Restore$1 -/
noncomputable def G27 : FuncId → FunA := fun g => bif Nat.beq g 23 then fixed_guess else fun _ _ => none
theorem G27_23 : G27 23 = fixed_guess := by kernel_rfl
def A27 : Ann := .two (.leaf) (.two (.leaf) (.leaf))
def R27 : Slots := [(3, .i .i64)]
noncomputable def fixed_Restore_1 : FunA := denF Try.prog G27 Try.f27 A27 R27
theorem fixed_Restore_1_eq (p0 : SV) (p1 q1 o1 : Nat) (μ : AMem) : fixed_Restore_1 [.s p0, .s (.ptr p1 q1 o1)] μ =
  (μ.cell p1 q1 o1).bind fun x1 =>
  (fixed_guess [.s p0, .s x1] μ).bind fun r2 =>
  asI .i64 r2.1 fun n3 =>
  some (.s (.int .i64 n3), r2.2) := by rw [← G27_23]; kernel_rfl

/-! ### overdub/fixed.Run -/
noncomputable def G26 : FuncId → FunA := fun g => bif Nat.beq g 22 then fixed_Check else bif Nat.beq g 28 then fixed_Sample else bif Nat.beq g 27 then fixed_Restore_1 else fun _ _ => none
theorem G26_22 : G26 22 = fixed_Check := by kernel_rfl
theorem G26_28 : G26 28 = fixed_Sample := by kernel_rfl
theorem G26_27 : G26 27 = fixed_Restore_1 := by kernel_rfl
def A26 : Ann := .two (.leaf) (.two (.leaf) (.two (.two (.leaf) (.two (.leaf) (.two (.two (.leaf) (.leaf)) (.leaf)))) (.two (.two (.leaf) (.join [(8, .s)] [] [] (.loop [(8, .s), (26, .i .i64)] [2, 24, 25] [0] (.two (.leaf) (.two (.two (.leaf) (.leaf)) (.two (.join [(2, .s), (8, .s), (24, .s), (25, .i .i64), (26, .i .i64)] [] [] (.two (.leaf) (.two (.join [(35, .b)] [2, 8, 11, 24, 25, 26] [] (.leaf) (.two (.two (.leaf) (.leaf)) (.leaf))) (.two (.leaf) (.two (.two (.leaf) (.two (.two (.leaf) (.leaf)) (.leaf))) (.leaf))))) .leaf) (.leaf))))) .leaf)) (.two (.two (.leaf) (.two (.two (.leaf) (.leaf)) (.leaf))) (.two (.leaf) (.leaf))))))
def R26 : Slots := [(6, .s), (7, .i .i64)]
noncomputable def fixed_Run : FunA := denF Try.prog G26 Try.f26 A26 R26
noncomputable def fixed_Run_L1_B (os vs : List AV) (μ : AMem) : Option Res := joinK [(8, .s), (26, .i .i64)] vs (envO [2, 24, 25] os) fun e => den Try.prog G26 Try.f26.ntmps (cL (cL (cR (cL (cR (cR (cR (bodyOf Try.f26)))))))) (aL (aL (aR (aL (aR (aR (aR A26))))))) { ret := R26, exits := [(0, [(8, .s)])] } Res e μ fun ex e μ => some (ex, valsOf (Lv.at { ret := R26, exits := [(0, [(8, .s)])] } [(8, .s), (26, .i .i64)] ex) e, μ)
noncomputable def fixed_Run_L1 (os vs : List AV) (μ : AMem) : Option Res := loopA (fixed_Run_L1_B os) vs μ
theorem fixed_Run_L1_B_eq (s2 : SV) (s24 : SV) (s25 : Int) (s8 : SV) (s26 : Int) (μ : AMem) : fixed_Run_L1_B [.s s2, .s s24, .s (.int .i64 s25)] [.s s8, .s (.int .i64 s26)] μ =
  bif decide (s26 < s25) then
  (indS 1 (.s s24) s26 fun p24 =>
    loadAt μ p24 fun v25 =>
    asI .i64 v25 fun n26 =>
    seqJ
    (bif !(decide (n26 < (-1099511627776))) then
      (some (.normal, [.s (.bool (decide (n26 > 1099511627776)))], μ))
      else
      (some (.normal, [.s (.bool true)], μ)))
    (fun vs27 m28 =>
      headK vs27 fun a29 r30 =>
      asB a29 fun b31 =>
      bif b31 then
      (some (.ret, [.s .nilSlice, .s (.int .i64 8)], m28))
      else
      (callV G26 (.s s2) [.s s8] m28 fun v33 m34 =>
        asI .i64 v33 fun n35 =>
        (fixed_Sample [.s (.int .i64 (IntKind.wrap .i64 (n35 + n26)))] m34).bind fun r36 =>
        asB r36.1 fun b37 =>
        bif (!b37) then
        (some (.ret, [.s .nilSlice, .s (.int .i64 8)], r36.2))
        else
        (appendA 3 1 8 (r36.2.next + 3) ((r36.2.bump 5).set (r36.2.next + 2) (rowObj [.int .i64 (IntKind.wrap .i64 (n35 + n26))] 1 3 (some 1))) (.s s8) (.s (.slice (r36.2.next + 2) 0 0 1)) fun x38 m39 =>
          asS x38 fun x40 =>
          some (.normal, [.s x40, .s (.int .i64 (IntKind.wrap .i64 (s26 + 1)))], m39))))
    (fun vs41 m42 =>
      headK vs41 fun a46 r47 =>
      asS a46 fun x48 =>
      headK r47 fun a49 r50 =>
      asI .i64 a49 fun n51 =>
      some (.ret, [.s x48, .s (.int .i64 n51)], m42))
    (fun d45 vs43 m44 =>
      none))
  else
  (some (.exit 0, [.s s8], μ)) := by rw [← G26_28]; kernel_rfl
theorem fixed_Run_L1_eq (os vs : List AV) (μ : AMem) : fixed_Run_L1 os vs μ = (fixed_Run_L1_B os vs μ).bind fun r => match r.1 with | .normal => fixed_Run_L1 os r.2.1 r.2.2 | _ => some r := loopA_eq _ _ _
theorem fixed_Run_eq (p0 : SV) (p1 : SV) (p2 : SV) (μ : AMem) : fixed_Run [.s p0, .s p1, .s p2] μ =
  appendA 3 1 8 (μ.next + 1) (μ.bump 3) (.s .nilSlice) (.s p0) fun x1 m2 =>
  asS x1 fun x3 =>
  (lenS (.s p0)).bind fun l4 =>
  cutS 1 (.s p0) 0 (if 64 < ((l4 : Nat) : Int) then 64 else ((l4 : Nat) : Int)) fun x5 =>
  (fixed_Check [x5] m2).bind fun r6 =>
  asI .i64 r6.1 fun n7 =>
  bif (n7 != 0) then
  (some (.tuple [.s .nilSlice, .s (.int .i64 n7)], r6.2))
  else
  ((lenS (.s p1)).bind fun l8 =>
    seqJ (fixed_Run_L1 [.s p2, .s p1, .s (.int .i64 ((l8 : Nat) : Int))] [.s x3, .s (.int .i64 0)] r6.2)
    (fun _ _ => none)
    (fun vs9 m10 =>
      headK vs9 fun a14 r15 =>
      asS a14 fun x16 =>
      headK r15 fun a17 r18 =>
      asI .i64 a17 fun n19 =>
      some (.tuple [.s x16, .s (.int .i64 n19)], m10))
    (fun d13 vs11 m12 =>
      bif Nat.beq 0 d13 then (headK vs11 fun a20 r21 =>
        asS a20 fun x22 =>
        (lenS (.s x22)).bind fun l23 =>
        bif decide (((l23 : Nat) : Int) > 64) then
        (some (.tuple [.s .nilSlice, .s (.int .i64 4)], m12))
        else
        (some (.tuple [.s x22, .s (.int .i64 0)], m12))) else (none))) := by rw [← G26_22]; kernel_rfl

/-! ### overdub/fixed.Restore -/
noncomputable def G19 : FuncId → FunA := fun g => bif Nat.beq g 16 then fixed_Coefficients else bif Nat.beq g 27 then fixed_Restore_1 else bif Nat.beq g 26 then fixed_Run else fun _ _ => none
theorem G19_16 : G19 16 = fixed_Coefficients := by kernel_rfl
theorem G19_27 : G19 27 = fixed_Restore_1 := by kernel_rfl
theorem G19_26 : G19 26 = fixed_Run := by kernel_rfl
def A19 : Ann := .two (.leaf) (.two (.two (.leaf) (.two (.two (.leaf) (.leaf)) (.leaf))) (.two (.leaf) (.two (.leaf) (.leaf))))
def R19 : Slots := [(4, .s), (5, .i .i64)]
noncomputable def fixed_Restore : FunA := denF Try.prog G19 Try.f19 A19 R19
theorem fixed_Restore_eq (p0 : SV) (p1 : SV) (μ : AMem) : fixed_Restore [.s p0, .s p1] μ =
  (lenS (.s p0)).bind fun l1 =>
  bif decide (((l1 : Nat) : Int) > 4) then
  (some (.tuple [.s .nilSlice, .s (.int .i64 1)], μ))
  else
  ((lenS (.s p0)).bind fun l2 =>
    (fixed_Coefficients [.s (.int .i64 ((l2 : Nat) : Int))] (μ.bump 5)).bind fun r3 =>
    asS r3.1 fun x4 =>
    ((r3.2.set (μ.next + 3) (rowObj [.nilSlice] 1 22 (some 1))).store (μ.next + 3) 0 0 [x4]).bind fun m5 =>
    (fixed_Run [.s p0, .s p1, .s (.func 27 [((μ.next + 3), 0, 0)])] m5).bind fun r6 =>
    extrK 0 r6.1 fun t7 =>
    asS t7 fun x8 =>
    extrK 1 r6.1 fun t9 =>
    asI .i64 t9 fun n10 =>
    some (.tuple [.s x8, .s (.int .i64 n10)], r6.2)) := by rw [← G19_16, ← G19_26]; kernel_rfl

/-! ### overdub/overdublaw05.FixedPowers -/
noncomputable def G5 : FuncId → FunA := fun g => bif Nat.beq g 9 then overdubkeep_Within else bif Nat.beq g 11 then fixed_Residual else bif Nat.beq g 19 then fixed_Restore else bif Nat.beq g 15 then overdubkeep_Same_int else bif Nat.beq g 10 then overdublaw05_wakes else fun _ _ => none
theorem G5_9 : G5 9 = overdubkeep_Within := by kernel_rfl
theorem G5_11 : G5 11 = fixed_Residual := by kernel_rfl
theorem G5_19 : G5 19 = fixed_Restore := by kernel_rfl
theorem G5_15 : G5 15 = overdubkeep_Same_int := by kernel_rfl
theorem G5_10 : G5 10 = overdublaw05_wakes := by kernel_rfl
def A5 : Ann := .two (.leaf) (.two (.leaf) (.two (.leaf) (.two (.leaf) (.two (.two (.leaf) (.join [(4, .i .i64), (5, .i .i64), (13, .s)] [] [] (.loop [(13, .s), (14, .i .i64)] [0, 1, 2, 3, 4, 5] [0] (.two (.two (.leaf) (.two (.leaf) (.leaf))) (.two (.join [(0, .i .i64), (1, .i .i64), (2, .i .i64), (3, .i .i64), (4, .i .i64), (5, .i .i64), (13, .s), (14, .i .i64)] [] [] (.two (.leaf) (.join [(15, .i .i64)] [0, 1, 2, 3, 4, 5, 13, 14] [] (.two (.leaf) (.two (.leaf) (.leaf))) (.join [(15, .i .i64)] [0, 1, 2, 3, 4, 5, 13, 14] [] (.two (.leaf) (.two (.leaf) (.leaf))) (.join [(15, .i .i64)] [0, 1, 2, 3, 4, 5, 13, 14] [] (.two (.leaf) (.two (.leaf) (.leaf))) (.leaf))))) .leaf) (.leaf)))) .leaf)) (.two (.leaf) (.two (.join [(91, .b)] [5, 13, 16] [] (.leaf) (.two (.two (.leaf) (.leaf)) (.leaf))) (.two (.two (.leaf) (.join [(5, .i .i64), (13, .s), (16, .s)] [] [] (.loop [(94, .i .i64)] [5, 13, 16, 93] [2] (.two (.leaf) (.two (.two (.leaf) (.leaf)) (.two (.join [(5, .i .i64), (13, .s), (16, .s), (93, .i .i64), (94, .i .i64)] [] [] (.two (.leaf) (.two (.leaf) (.two (.two (.leaf) (.leaf)) (.leaf)))) .leaf) (.leaf))))) .leaf)) (.two (.leaf) (.two (.leaf) (.leaf))))))))))
def R5 : Slots := [(12, .b)]
noncomputable def overdublaw05_FixedPowers : FunA := denF Try.prog G5 Try.f5 A5 R5
noncomputable def overdublaw05_FixedPowers_L2_B (os vs : List AV) (μ : AMem) : Option Res := joinK [(94, .i .i64)] vs (envO [5, 13, 16, 93] os) fun e => den Try.prog G5 Try.f5.ntmps (cL (cL (cR (cL (cR (cR (cR (cR (cR (cR (cR (bodyOf Try.f5)))))))))))) (aL (aL (aR (aL (aR (aR (aR (aR (aR (aR (aR A5))))))))))) { ret := R5, exits := [(2, [(5, .i .i64), (13, .s), (16, .s)])] } Res e μ fun ex e μ => some (ex, valsOf (Lv.at { ret := R5, exits := [(2, [(5, .i .i64), (13, .s), (16, .s)])] } [(94, .i .i64)] ex) e, μ)
noncomputable def overdublaw05_FixedPowers_L2 (os vs : List AV) (μ : AMem) : Option Res := loopA (overdublaw05_FixedPowers_L2_B os) vs μ
noncomputable def overdublaw05_FixedPowers_L1_B (os vs : List AV) (μ : AMem) : Option Res := joinK [(13, .s), (14, .i .i64)] vs (envO [0, 1, 2, 3, 4, 5] os) fun e => den Try.prog G5 Try.f5.ntmps (cL (cL (cR (cL (cR (cR (cR (cR (bodyOf Try.f5))))))))) (aL (aL (aR (aL (aR (aR (aR (aR A5)))))))) { ret := R5, exits := [(0, [(4, .i .i64), (5, .i .i64), (13, .s)])] } Res e μ fun ex e μ => some (ex, valsOf (Lv.at { ret := R5, exits := [(0, [(4, .i .i64), (5, .i .i64), (13, .s)])] } [(13, .s), (14, .i .i64)] ex) e, μ)
noncomputable def overdublaw05_FixedPowers_L1 (os vs : List AV) (μ : AMem) : Option Res := loopA (overdublaw05_FixedPowers_L1_B os) vs μ
theorem overdublaw05_FixedPowers_L2_B_eq (s5 : Int) (s13 : SV) (s16 : SV) (s93 : Int) (s94 : Int) (μ : AMem) : overdublaw05_FixedPowers_L2_B [.s (.int .i64 s5), .s s13, .s s16, .s (.int .i64 s93)] [.s (.int .i64 s94)] μ =
  bif decide (s94 < s93) then
  (indS 1 (.s s16) s94 fun p119 =>
    loadAt μ p119 fun v120 =>
    asI .i64 v120 fun n121 =>
    bif (n121 != 0) then
    (some (.ret, [.s (.bool false)], μ))
    else
    (some (.normal, [.s (.int .i64 (IntKind.wrap .i64 (s94 + 1)))], μ)))
  else
  (some (.exit 2, [.s (.int .i64 s5), .s s13, .s s16], μ)) := by kernel_rfl
theorem overdublaw05_FixedPowers_L2_eq (os vs : List AV) (μ : AMem) : overdublaw05_FixedPowers_L2 os vs μ = (overdublaw05_FixedPowers_L2_B os vs μ).bind fun r => match r.1 with | .normal => overdublaw05_FixedPowers_L2 os r.2.1 r.2.2 | _ => some r := loopA_eq _ _ _
theorem overdublaw05_FixedPowers_L1_B_eq (s0 : Int) (s1 : Int) (s2 : Int) (s3 : Int) (s4 : Int) (s5 : Int) (s13 : SV) (s14 : Int) (μ : AMem) : overdublaw05_FixedPowers_L1_B [.s (.int .i64 s0), .s (.int .i64 s1), .s (.int .i64 s2), .s (.int .i64 s3), .s (.int .i64 s4), .s (.int .i64 s5)] [.s s13, .s (.int .i64 s14)] μ =
  bif decide (s14 < s4) then
  (seqJ
    (bif decide (s5 > 0) then
      (some (.normal, [.s (.int .i64 (IntKind.wrap .i64 (s0 + (IntKind.wrap .i64 (s1 * s14)))))], μ))
      else
      (some (.normal, [.s (.int .i64 s0)], μ)))
    (fun vs77 m78 =>
      headK vs77 fun a79 r80 =>
      asI .i64 a79 fun n81 =>
      seqJ
      (bif decide (s5 > 1) then
        (some (.normal, [.s (.int .i64 (IntKind.wrap .i64 (n81 + (IntKind.wrap .i64 ((IntKind.wrap .i64 (s2 * s14)) * s14)))))], m78))
        else
        (some (.normal, [.s (.int .i64 n81)], m78)))
      (fun vs82 m83 =>
        headK vs82 fun a84 r85 =>
        asI .i64 a84 fun n86 =>
        seqJ
        (bif decide (s5 > 2) then
          (some (.normal, [.s (.int .i64 (IntKind.wrap .i64 (n86 + (IntKind.wrap .i64 ((IntKind.wrap .i64 ((IntKind.wrap .i64 (s3 * s14)) * s14)) * s14)))))], m83))
          else
          (some (.normal, [.s (.int .i64 n86)], m83)))
        (fun vs87 m88 =>
          headK vs87 fun a89 r90 =>
          asI .i64 a89 fun n91 =>
          appendA 3 1 8 (m88.next + 3) ((m88.bump 5).set (m88.next + 2) (rowObj [.int .i64 n91] 1 3 (some 1))) (.s s13) (.s (.slice (m88.next + 2) 0 0 1)) fun x92 m93 =>
          asS x92 fun x94 =>
          some (.normal, [.s x94, .s (.int .i64 (IntKind.wrap .i64 (s14 + 1)))], m93))
        (fun vs95 m96 =>
          headK vs95 fun a100 r101 =>
          asB a100 fun b102 =>
          some (.ret, [.s (.bool b102)], m96))
        (fun d99 vs97 m98 =>
          none))
      (fun vs103 m104 =>
        headK vs103 fun a108 r109 =>
        asB a108 fun b110 =>
        some (.ret, [.s (.bool b110)], m104))
      (fun d107 vs105 m106 =>
        none))
    (fun vs111 m112 =>
      headK vs111 fun a116 r117 =>
      asB a116 fun b118 =>
      some (.ret, [.s (.bool b118)], m112))
    (fun d115 vs113 m114 =>
      none))
  else
  (some (.exit 0, [.s (.int .i64 s4), .s (.int .i64 s5), .s s13], μ)) := by kernel_rfl
theorem overdublaw05_FixedPowers_L1_eq (os vs : List AV) (μ : AMem) : overdublaw05_FixedPowers_L1 os vs μ = (overdublaw05_FixedPowers_L1_B os vs μ).bind fun r => match r.1 with | .normal => overdublaw05_FixedPowers_L1 os r.2.1 r.2.2 | _ => some r := loopA_eq _ _ _
theorem overdublaw05_FixedPowers_eq (p0 : Int) (p1 : Int) (p2 : Int) (p3 : Int) (p4 : Int) (p5 : Int) (μ : AMem) : overdublaw05_FixedPowers [.s (.int .i64 p0), .s (.int .i64 p1), .s (.int .i64 p2), .s (.int .i64 p3), .s (.int .i64 p4), .s (.int .i64 p5)] μ =
  (overdubkeep_Within [.s (.int .i64 p0), .s (.int .i64 1000)] μ).bind fun r1 =>
  asI .i64 r1.1 fun n2 =>
  (overdubkeep_Within [.s (.int .i64 p1), .s (.int .i64 200)] r1.2).bind fun r3 =>
  asI .i64 r3.1 fun n4 =>
  (overdubkeep_Within [.s (.int .i64 p2), .s (.int .i64 20)] r3.2).bind fun r5 =>
  asI .i64 r5.1 fun n6 =>
  (overdubkeep_Within [.s (.int .i64 p3), .s (.int .i64 5)] r5.2).bind fun r7 =>
  asI .i64 r7.1 fun n8 =>
  (overdubkeep_Within [.s (.int .i64 p4), .s (.int .i64 60)] r7.2).bind fun r9 =>
  asI .i64 r9.1 fun n10 =>
  (overdubkeep_Within [.s (.int .i64 p5), .s (.int .i64 4)] r9.2).bind fun r11 =>
  asI .i64 r11.1 fun n12 =>
  seqJ (overdublaw05_FixedPowers_L1 [.s (.int .i64 n2), .s (.int .i64 (IntKind.wrap .i64 (n4 - 100))), .s (.int .i64 (IntKind.wrap .i64 (n6 - 10))), .s (.int .i64 (IntKind.wrap .i64 (n8 - 2))), .s (.int .i64 (IntKind.wrap .i64 (5 + n10))), .s (.int .i64 n12)] [.s .nilSlice, .s (.int .i64 0)] r11.2)
  (fun _ _ => none)
  (fun vs13 m14 =>
    headK vs13 fun a18 r19 =>
    asB a18 fun b20 =>
    some (.s (.bool b20), m14))
  (fun d17 vs15 m16 =>
    bif Nat.beq 0 d17 then (headK vs15 fun a21 r22 =>
      asI .i64 a21 fun n23 =>
      headK r22 fun a24 r25 =>
      asI .i64 a24 fun n26 =>
      headK r25 fun a27 r28 =>
      asS a27 fun x29 =>
      (fixed_Residual [.s x29, .s (.int .i64 (IntKind.wrap .i64 (n26 + 1)))] m16).bind fun r30 =>
      extrK 0 r30.1 fun t31 =>
      asS t31 fun x32 =>
      extrK 1 r30.1 fun t33 =>
      asI .i64 t33 fun n34 =>
      seqJ
      (bif !(n34 != 0) then
        ((lenS (.s x32)).bind fun l35 =>
          some (.normal, [.s (.bool (((l35 : Nat) : Int) != (IntKind.wrap .i64 ((IntKind.wrap .i64 (n23 - n26)) - 1))))], r30.2))
        else
        (some (.normal, [.s (.bool true)], r30.2)))
      (fun vs36 m37 =>
        headK vs36 fun a38 r39 =>
        asB a38 fun b40 =>
        bif b40 then
        (some (.s (.bool false), m37))
        else
        ((lenS (.s x32)).bind fun l41 =>
          seqJ (overdublaw05_FixedPowers_L2 [.s (.int .i64 n26), .s x29, .s x32, .s (.int .i64 ((l41 : Nat) : Int))] [.s (.int .i64 0)] m37)
          (fun _ _ => none)
          (fun vs42 m43 =>
            headK vs42 fun a47 r48 =>
            asB a47 fun b49 =>
            some (.s (.bool b49), m43))
          (fun d46 vs44 m45 =>
            bif Nat.beq 2 d46 then (headK vs44 fun a50 r51 =>
              asI .i64 a50 fun n52 =>
              headK r51 fun a53 r54 =>
              asS a53 fun x55 =>
              headK r54 fun a56 r57 =>
              asS a56 fun x58 =>
              cutS 1 (.s x55) 0 (IntKind.wrap .i64 (n52 + 1)) fun x59 =>
              (fixed_Restore [x59, .s x58] m45).bind fun r60 =>
              extrK 0 r60.1 fun t61 =>
              asS t61 fun x62 =>
              extrK 1 r60.1 fun t63 =>
              asI .i64 t63 fun n64 =>
              bif (n64 == 0) then
              ((overdubkeep_Same_int [.s x62, .s x55] r60.2).bind fun r65 =>
                asB r65.1 fun b66 =>
                bif b66 then
                ((overdublaw05_wakes [] r65.2).bind fun r67 =>
                  asB r67.1 fun b68 =>
                  some (.s (.bool b68), r67.2))
                else
                (some (.s (.bool false), r65.2)))
              else
              (some (.s (.bool false), r60.2))) else (none))))
      (fun vs69 m70 =>
        headK vs69 fun a74 r75 =>
        asB a74 fun b76 =>
        some (.s (.bool b76), m70))
      (fun d73 vs71 m72 =>
        none)) else (none)) := by rw [← G5_9, ← G5_11, ← G5_19, ← G5_15, ← G5_10]; kernel_rfl

/-! ### overdub/overdublaw05.FixedErrors -/
noncomputable def G6 : FuncId → FunA := fun g => bif Nat.beq g 9 then overdubkeep_Within else bif Nat.beq g 13 then overdubkeep_Copy_int else bif Nat.beq g 11 then fixed_Residual else bif Nat.beq g 19 then fixed_Restore else bif Nat.beq g 10 then overdublaw05_wakes else fun _ _ => none
theorem G6_9 : G6 9 = overdubkeep_Within := by kernel_rfl
theorem G6_13 : G6 13 = overdubkeep_Copy_int := by kernel_rfl
theorem G6_11 : G6 11 = fixed_Residual := by kernel_rfl
theorem G6_19 : G6 19 = fixed_Restore := by kernel_rfl
theorem G6_10 : G6 10 = overdublaw05_wakes := by kernel_rfl
def A6 : Ann := .two (.leaf) (.two (.leaf) (.two (.leaf) (.two (.leaf) (.two (.leaf) (.two (.leaf) (.two (.leaf) (.two (.leaf) (.two (.leaf) (.two (.leaf) (.two (.leaf) (.two (.leaf) (.two (.leaf) (.leaf)))))))))))))
def R6 : Slots := [(6, .b)]
noncomputable def overdublaw05_FixedErrors : FunA := denF Try.prog G6 Try.f6 A6 R6
theorem overdublaw05_FixedErrors_eq (p0 : Int) (p1 : Int) (p2 : Int) (μ : AMem) : overdublaw05_FixedErrors [.s (.int .i64 p0), .s (.int .i64 p1), .s (.int .i64 p2)] μ =
  (overdubkeep_Within [.s (.int .i64 p2), .s (.int .i64 5)] (μ.bump 5)).bind fun r1 =>
  asI .i64 r1.1 fun n2 =>
  if 0 ≤ (IntKind.wrap .i64 (65 + n2)) ∧ (IntKind.wrap .i64 (65 + n2)) ≤ (IntKind.wrap .i64 (65 + n2)) ∧ (IntKind.wrap .i64 (65 + n2)) ≤ 9223372036854775807 ∧ (8 : Nat) * (IntKind.wrap .i64 (65 + n2)) ≤ 140737488355328 then
  ((overdubkeep_Within [.s (.int .i64 p1), .s (.int .i64 99)] ((r1.2.set (μ.next + 3) (rowObj (zerosA [.int .i64 0] (Int.toNat (IntKind.wrap .i64 (65 + n2)))) 1 3 (some (Int.toNat (IntKind.wrap .i64 (65 + n2)))))).bump 5)).bind fun r3 =>
    asI .i64 r3.1 fun n4 =>
    (overdubkeep_Copy_int [.s (.slice (μ.next + 3) 0 0 (Int.toNat (IntKind.wrap .i64 (65 + n2))))] ((r3.2.set ((r1.2.set (μ.next + 3) (rowObj (zerosA [.int .i64 0] (Int.toNat (IntKind.wrap .i64 (65 + n2)))) 1 3 (some (Int.toNat (IntKind.wrap .i64 (65 + n2)))))).next + 3) (rowObj [.int .i64 1, .int .i64 2, .int .i64 3, .int .i64 4, .int .i64 (IntKind.wrap .i64 (8388608 + n4))] 1 3 (some 5))).bump 5)).bind fun r5 =>
    asS r5.1 fun x6 =>
    appendA 3 1 8 ((r3.2.set ((r1.2.set (μ.next + 3) (rowObj (zerosA [.int .i64 0] (Int.toNat (IntKind.wrap .i64 (65 + n2)))) 1 3 (some (Int.toNat (IntKind.wrap .i64 (65 + n2)))))).next + 3) (rowObj [.int .i64 1, .int .i64 2, .int .i64 3, .int .i64 4, .int .i64 (IntKind.wrap .i64 (8388608 + n4))] 1 3 (some 5))).next + 3) (r5.2.set ((r3.2.set ((r1.2.set (μ.next + 3) (rowObj (zerosA [.int .i64 0] (Int.toNat (IntKind.wrap .i64 (65 + n2)))) 1 3 (some (Int.toNat (IntKind.wrap .i64 (65 + n2)))))).next + 3) (rowObj [.int .i64 1, .int .i64 2, .int .i64 3, .int .i64 4, .int .i64 (IntKind.wrap .i64 (8388608 + n4))] 1 3 (some 5))).next + 2) (rowObj [.int .i64 (-8388609)] 1 3 (some 1))) (.s x6) (.s (.slice ((r3.2.set ((r1.2.set (μ.next + 3) (rowObj (zerosA [.int .i64 0] (Int.toNat (IntKind.wrap .i64 (65 + n2)))) 1 3 (some (Int.toNat (IntKind.wrap .i64 (65 + n2)))))).next + 3) (rowObj [.int .i64 1, .int .i64 2, .int .i64 3, .int .i64 4, .int .i64 (IntKind.wrap .i64 (8388608 + n4))] 1 3 (some 5))).next + 2) 0 0 1)) fun x7 m8 =>
    asS x7 fun x9 =>
    (overdubkeep_Within [.s (.int .i64 p0), .s (.int .i64 5)] m8).bind fun r10 =>
    asI .i64 r10.1 fun n11 =>
    (fixed_Residual [.s (.slice (μ.next + 3) 0 0 (Int.toNat (IntKind.wrap .i64 (65 + n2)))), .s (.int .i64 n11)] r10.2).bind fun r12 =>
    extrK 0 r12.1 fun t13 =>
    asS t13 fun x14 =>
    extrK 1 r12.1 fun t15 =>
    asI .i64 t15 fun n16 =>
    (overdubkeep_Within [.s (.int .i64 p0), .s (.int .i64 5)] r12.2).bind fun r17 =>
    asI .i64 r17.1 fun n18 =>
    (fixed_Residual [.s (.slice ((r1.2.set (μ.next + 3) (rowObj (zerosA [.int .i64 0] (Int.toNat (IntKind.wrap .i64 (65 + n2)))) 1 3 (some (Int.toNat (IntKind.wrap .i64 (65 + n2)))))).next + 3) 0 0 5), .s (.int .i64 n18)] r17.2).bind fun r19 =>
    extrK 0 r19.1 fun t20 =>
    asS t20 fun x21 =>
    extrK 1 r19.1 fun t22 =>
    asI .i64 t22 fun n23 =>
    (fixed_Residual [.s x9, .s (.int .i64 2)] r19.2).bind fun r24 =>
    extrK 0 r24.1 fun t25 =>
    asS t25 fun x26 =>
    extrK 1 r24.1 fun t27 =>
    asI .i64 t27 fun n28 =>
    (overdubkeep_Within [.s (.int .i64 p0), .s (.int .i64 50)] r24.2).bind fun r29 =>
    asI .i64 r29.1 fun n30 =>
    (fixed_Residual [.s x9, .s (.int .i64 (IntKind.wrap .i64 (5 + n30)))] r29.2).bind fun r31 =>
    extrK 0 r31.1 fun t32 =>
    asS t32 fun x33 =>
    extrK 1 r31.1 fun t34 =>
    asI .i64 t34 fun n35 =>
    (overdubkeep_Within [.s (.int .i64 p0), .s (.int .i64 50)] r31.2).bind fun r36 =>
    asI .i64 r36.1 fun n37 =>
    (fixed_Residual [.s (.slice ((r1.2.set (μ.next + 3) (rowObj (zerosA [.int .i64 0] (Int.toNat (IntKind.wrap .i64 (65 + n2)))) 1 3 (some (Int.toNat (IntKind.wrap .i64 (65 + n2)))))).next + 3) 0 0 5), .s (.int .i64 (IntKind.wrap .i64 ((-1) - n37)))] r36.2).bind fun r38 =>
    extrK 0 r38.1 fun t39 =>
    asS t39 fun x40 =>
    extrK 1 r38.1 fun t41 =>
    asI .i64 t41 fun n42 =>
    (fixed_Restore [.s (.slice (r38.2.next + 0) 0 0 5), .s (.slice ((r1.2.set (μ.next + 3) (rowObj (zerosA [.int .i64 0] (Int.toNat (IntKind.wrap .i64 (65 + n2)))) 1 3 (some (Int.toNat (IntKind.wrap .i64 (65 + n2)))))).next + 3) 0 0 5)] ((r38.2.bump 8).set (r38.2.next + 0) (rowObj [.int .i64 0, .int .i64 0, .int .i64 0, .int .i64 0, .int .i64 0] 1 3 (some 5)))).bind fun r43 =>
    extrK 0 r43.1 fun t44 =>
    asS t44 fun x45 =>
    extrK 1 r43.1 fun t46 =>
    asI .i64 t46 fun n47 =>
    (fixed_Restore [.s (.slice (r43.2.next + 0) 0 0 1), .s (.slice (r43.2.next + 1) 0 0 1)] (((r43.2.bump 8).set (r43.2.next + 0) (rowObj [.int .i64 8388607] 1 3 (some 1))).set (r43.2.next + 1) (rowObj [.int .i64 1] 1 3 (some 1)))).bind fun r48 =>
    extrK 0 r48.1 fun t49 =>
    asS t49 fun x50 =>
    extrK 1 r48.1 fun t51 =>
    asI .i64 t51 fun n52 =>
    (fixed_Restore [.s .nilSlice, .s (.slice (μ.next + 3) 0 0 (Int.toNat (IntKind.wrap .i64 (65 + n2))))] r48.2).bind fun r53 =>
    extrK 0 r53.1 fun t54 =>
    asS t54 fun x55 =>
    extrK 1 r53.1 fun t56 =>
    asI .i64 t56 fun n57 =>
    bif (n16 == 4) then
    (bif (n23 == 8) then
      (bif (n28 == 8) then
        (bif (n35 == 1) then
          (bif (n42 == 1) then
            (bif (n47 == 1) then
              (bif (n52 == 8) then
                (bif (n57 == 4) then
                  ((overdublaw05_wakes [] r53.2).bind fun r58 =>
                    asB r58.1 fun b59 =>
                    some (.s (.bool b59), r58.2))
                  else
                  (some (.s (.bool false), r53.2)))
                else
                (some (.s (.bool false), r53.2)))
              else
              (some (.s (.bool false), r53.2)))
            else
            (some (.s (.bool false), r53.2)))
          else
          (some (.s (.bool false), r53.2)))
        else
        (some (.s (.bool false), r53.2)))
      else
      (some (.s (.bool false), r53.2)))
    else
    (some (.s (.bool false), r53.2))) else none := by rw [← G6_9, ← G6_13, ← G6_11, ← G6_19, ← G6_10]; kernel_rfl

/-! ### overdub/overdubkeep.Cut[int] -/
noncomputable def G20 : FuncId → FunA := fun _ _ _ => none
def A20 : Ann := .two (.leaf) (.two (.leaf) (.leaf))
def R20 : Slots := [(4, .s)]
noncomputable def overdubkeep_Cut_int : FunA := denF Try.prog G20 Try.f20 A20 R20
theorem overdubkeep_Cut_int_eq (p0 : SV) (p1 : Int) (μ : AMem) : overdubkeep_Cut_int [.s p0, .s (.int .i64 p1)] μ =
  (lenS (.s p0)).bind fun l1 =>
  cutS 1 (.s p0) 0 (if p1 < ((l1 : Nat) : Int) then p1 else ((l1 : Nat) : Int)) fun x2 =>
  some (x2, μ) := by kernel_rfl

/-! ### overdub/overdubref05.Restore -/
noncomputable def G21 : FuncId → FunA := fun g => bif Nat.beq g 24 then overdubref05_May else bif Nat.beq g 25 then overdubref05_told else fun _ _ => none
theorem G21_24 : G21 24 = overdubref05_May := by kernel_rfl
theorem G21_25 : G21 25 = overdubref05_told := by kernel_rfl
def A21 : Ann := .two (.leaf) (.two (.two (.leaf) (.two (.two (.leaf) (.leaf)) (.leaf))) (.two (.two (.leaf) (.two (.leaf) (.two (.two (.leaf) (.leaf)) (.leaf)))) (.two (.leaf) (.two (.two (.leaf) (.join [(7, .s)] [] [] (.loop [(7, .s), (22, .i .i64)] [0, 1, 21] [0] (.two (.leaf) (.two (.two (.leaf) (.leaf)) (.two (.join [(0, .s), (1, .s), (7, .s), (21, .i .i64), (22, .i .i64)] [] [] (.two (.leaf) (.two (.join [(36, .b)] [0, 1, 7, 8, 21, 22] [] (.leaf) (.two (.two (.leaf) (.leaf)) (.leaf))) (.two (.ord [0, 1, 2, 4, 5, 6, 7, 3, 8, 9]) (.two (.join [(51, .b)] [0, 1, 7, 9, 21, 22] [] (.leaf) (.two (.two (.leaf) (.leaf)) (.leaf))) (.leaf))))) .leaf) (.leaf))))) .leaf)) (.two (.two (.leaf) (.two (.two (.leaf) (.leaf)) (.leaf))) (.two (.leaf) (.leaf)))))))
def R21 : Slots := [(4, .s), (5, .i .i64)]
noncomputable def overdubref05_Restore : FunA := denF Try.prog G21 Try.f21 A21 R21
noncomputable def overdubref05_Restore_L1_B (os vs : List AV) (μ : AMem) : Option Res := joinK [(7, .s), (22, .i .i64)] vs (envO [0, 1, 21] os) fun e => den Try.prog G21 Try.f21.ntmps (cL (cL (cR (cL (cR (cR (cR (cR (bodyOf Try.f21))))))))) (aL (aL (aR (aL (aR (aR (aR (aR A21)))))))) { ret := R21, exits := [(0, [(7, .s)])] } Res e μ fun ex e μ => some (ex, valsOf (Lv.at { ret := R21, exits := [(0, [(7, .s)])] } [(7, .s), (22, .i .i64)] ex) e, μ)
noncomputable def overdubref05_Restore_L1 (os vs : List AV) (μ : AMem) : Option Res := loopA (overdubref05_Restore_L1_B os) vs μ
theorem overdubref05_Restore_L1_B_eq (s0 : SV) (s1 : SV) (s21 : Int) (s7 : SV) (s22 : Int) (μ : AMem) : overdubref05_Restore_L1_B [.s s0, .s s1, .s (.int .i64 s21)] [.s s7, .s (.int .i64 s22)] μ =
  bif decide (s22 < s21) then
  (seqJ
    (indS 1 (.s s1) s22 fun p23 =>
      loadAt μ p23 fun v24 =>
      asI .i64 v24 fun n25 =>
      bif !(decide (n25 < (-1099511627776))) then
      (indS 1 (.s s1) s22 fun p26 =>
        loadAt μ p26 fun v27 =>
        asI .i64 v27 fun n28 =>
        some (.normal, [.s (.bool (decide (n28 > 1099511627776)))], μ))
      else
      (some (.normal, [.s (.bool true)], μ)))
    (fun vs29 m30 =>
      headK vs29 fun a31 r32 =>
      asB a31 fun b33 =>
      bif b33 then
      (some (.ret, [.s .nilSlice, .s (.int .i64 8)], m30))
      else
      ((lenS (.s s0)).bind fun l34 =>
        indS 1 (.s s1) s22 fun p35 =>
        loadAt m30 p35 fun v36 =>
        asI .i64 v36 fun n37 =>
        (overdubref05_told [.s s7, .s (.int .i64 ((l34 : Nat) : Int))] m30).bind fun r38 =>
        asI .i64 r38.1 fun n39 =>
        checkA ((loadAt r38.2 p35 some) = some (.s (.int .i64 n37)))
        (seqJ
          (bif !(decide ((IntKind.wrap .i64 (n39 + n37)) < (-8388608))) then
            (some (.normal, [.s (.bool (decide ((IntKind.wrap .i64 (n39 + n37)) > 8388607)))], r38.2))
            else
            (some (.normal, [.s (.bool true)], r38.2)))
          (fun vs40 m41 =>
            headK vs40 fun a42 r43 =>
            asB a42 fun b44 =>
            bif b44 then
            (some (.ret, [.s .nilSlice, .s (.int .i64 8)], m41))
            else
            (appendA 3 1 8 (m41.next + 3) ((m41.bump 5).set (m41.next + 2) (rowObj [.int .i64 (IntKind.wrap .i64 (n39 + n37))] 1 3 (some 1))) (.s s7) (.s (.slice (m41.next + 2) 0 0 1)) fun x45 m46 =>
              asS x45 fun x47 =>
              some (.normal, [.s x47, .s (.int .i64 (IntKind.wrap .i64 (s22 + 1)))], m46)))
          (fun vs48 m49 =>
            headK vs48 fun a53 r54 =>
            asS a53 fun x55 =>
            headK r54 fun a56 r57 =>
            asI .i64 a56 fun n58 =>
            some (.ret, [.s x55, .s (.int .i64 n58)], m49))
          (fun d52 vs50 m51 =>
            none))))
    (fun vs59 m60 =>
      headK vs59 fun a64 r65 =>
      asS a64 fun x66 =>
      headK r65 fun a67 r68 =>
      asI .i64 a67 fun n69 =>
      some (.ret, [.s x66, .s (.int .i64 n69)], m60))
    (fun d63 vs61 m62 =>
      none))
  else
  (some (.exit 0, [.s s7], μ)) := by rw [← G21_25]; kernel_rfl
theorem overdubref05_Restore_L1_eq (os vs : List AV) (μ : AMem) : overdubref05_Restore_L1 os vs μ = (overdubref05_Restore_L1_B os vs μ).bind fun r => match r.1 with | .normal => overdubref05_Restore_L1 os r.2.1 r.2.2 | _ => some r := loopA_eq _ _ _
theorem overdubref05_Restore_eq (p0 : SV) (p1 : SV) (μ : AMem) : overdubref05_Restore [.s p0, .s p1] μ =
  (lenS (.s p0)).bind fun l1 =>
  bif decide (((l1 : Nat) : Int) > 4) then
  (some (.tuple [.s .nilSlice, .s (.int .i64 1)], μ))
  else
  ((overdubref05_May [.s p0] μ).bind fun r2 =>
    asI .i64 r2.1 fun n3 =>
    bif (n3 != 0) then
    (some (.tuple [.s .nilSlice, .s (.int .i64 n3)], r2.2))
    else
    (appendA 3 1 8 (r2.2.next + 1) (r2.2.bump 3) (.s .nilSlice) (.s p0) fun x4 m5 =>
      asS x4 fun x6 =>
      (lenS (.s p1)).bind fun l7 =>
      seqJ (overdubref05_Restore_L1 [.s p0, .s p1, .s (.int .i64 ((l7 : Nat) : Int))] [.s x6, .s (.int .i64 0)] m5)
      (fun _ _ => none)
      (fun vs8 m9 =>
        headK vs8 fun a13 r14 =>
        asS a13 fun x15 =>
        headK r14 fun a16 r17 =>
        asI .i64 a16 fun n18 =>
        some (.tuple [.s x15, .s (.int .i64 n18)], m9))
      (fun d12 vs10 m11 =>
        bif Nat.beq 0 d12 then (headK vs10 fun a19 r20 =>
          asS a19 fun x21 =>
          (lenS (.s x21)).bind fun l22 =>
          bif decide (((l22 : Nat) : Int) > 64) then
          (some (.tuple [.s .nilSlice, .s (.int .i64 4)], m11))
          else
          (some (.tuple [.s x21, .s (.int .i64 0)], m11))) else (none)))) := by rw [← G21_24]; kernel_rfl

/-! ### overdub/overdublaw05.FixedRestores -/
noncomputable def G7 : FuncId → FunA := fun g => bif Nat.beq g 12 then overdubkeep_Samples else bif Nat.beq g 20 then overdubkeep_Cut_int else bif Nat.beq g 9 then overdubkeep_Within else bif Nat.beq g 19 then fixed_Restore else bif Nat.beq g 21 then overdubref05_Restore else bif Nat.beq g 15 then overdubkeep_Same_int else bif Nat.beq g 10 then overdublaw05_wakes else fun _ _ => none
theorem G7_12 : G7 12 = overdubkeep_Samples := by kernel_rfl
theorem G7_20 : G7 20 = overdubkeep_Cut_int := by kernel_rfl
theorem G7_9 : G7 9 = overdubkeep_Within := by kernel_rfl
theorem G7_19 : G7 19 = fixed_Restore := by kernel_rfl
theorem G7_21 : G7 21 = overdubref05_Restore := by kernel_rfl
theorem G7_15 : G7 15 = overdubkeep_Same_int := by kernel_rfl
theorem G7_10 : G7 10 = overdublaw05_wakes := by kernel_rfl
def A7 : Ann := .two (.leaf) (.two (.leaf) (.two (.leaf) (.join [(1, .s)] [0] [] (.two (.leaf) (.two (.two (.leaf) (.two (.two (.leaf) (.join [(0, .s), (9, .s)] [] [] (.loop [(9, .s), (23, .i .i64)] [0, 1, 22] [0] (.two (.leaf) (.two (.two (.leaf) (.leaf)) (.two (.join [(0, .s), (1, .s), (9, .s), (22, .i .i64), (23, .i .i64)] [] [] (.two (.leaf) (.leaf)) .leaf) (.leaf))))) .leaf)) (.leaf))) (.leaf))) (.two (.leaf) (.two (.leaf) (.two (.leaf) (.leaf)))))))
def R7 : Slots := [(8, .b)]
noncomputable def overdublaw05_FixedRestores : FunA := denF Try.prog G7 Try.f7 A7 R7
noncomputable def overdublaw05_FixedRestores_L1_B (os vs : List AV) (μ : AMem) : Option Res := joinK [(9, .s), (23, .i .i64)] vs (envO [0, 1, 22] os) fun e => den Try.prog G7 Try.f7.ntmps (cL (cL (cR (cL (cR (cL (cR (cL (cR (cR (cR (bodyOf Try.f7)))))))))))) (aL (aL (aR (aL (aR (aL (aR (aL (aR (aR (aR A7))))))))))) { ret := R7, exits := [(0, [(0, .s), (9, .s)])] } Res e μ fun ex e μ => some (ex, valsOf (Lv.at { ret := R7, exits := [(0, [(0, .s), (9, .s)])] } [(9, .s), (23, .i .i64)] ex) e, μ)
noncomputable def overdublaw05_FixedRestores_L1 (os vs : List AV) (μ : AMem) : Option Res := loopA (overdublaw05_FixedRestores_L1_B os) vs μ
theorem overdublaw05_FixedRestores_L1_B_eq (s0 : SV) (s1 : SV) (s22 : Int) (s9 : SV) (s23 : Int) (μ : AMem) : overdublaw05_FixedRestores_L1_B [.s s0, .s s1, .s (.int .i64 s22)] [.s s9, .s (.int .i64 s23)] μ =
  bif decide (s23 < s22) then
  (indS 1 (.s s1) s23 fun p47 =>
    loadAt (μ.bump 10) p47 fun v48 =>
    asI .i64 v48 fun n49 =>
    (overdubkeep_Within [.s (.int .i64 n49), .s (.int .i64 41)] (μ.bump 10)).bind fun r50 =>
    asI .i64 r50.1 fun n51 =>
    appendA 3 1 8 (μ.next + 8) (r50.2.set (μ.next + 7) (rowObj [.int .i64 (IntKind.wrap .i64 (n51 - 20))] 1 3 (some 1))) (.s s9) (.s (.slice (μ.next + 7) 0 0 1)) fun x52 m53 =>
    asS x52 fun x54 =>
    some (.normal, [.s x54, .s (.int .i64 (IntKind.wrap .i64 (s23 + 1)))], m53))
  else
  (some (.exit 0, [.s s0, .s s9], μ)) := by rw [← G7_9]; kernel_rfl
theorem overdublaw05_FixedRestores_L1_eq (os vs : List AV) (μ : AMem) : overdublaw05_FixedRestores_L1 os vs μ = (overdublaw05_FixedRestores_L1_B os vs μ).bind fun r => match r.1 with | .normal => overdublaw05_FixedRestores_L1 os r.2.1 r.2.2 | _ => some r := loopA_eq _ _ _
theorem overdublaw05_FixedRestores_eq (p0 : SV) (p1 : SV) (p2 : Bool) (p3 : Bool) (μ : AMem) : overdublaw05_FixedRestores [.s p0, .s p1, .s (.bool p2), .s (.bool p3)] μ =
  (overdubkeep_Samples [.s p0, .s (.int .i64 6), .s (.bool p2)] μ).bind fun r1 =>
  asS r1.1 fun x2 =>
  (overdubkeep_Cut_int [.s p1, .s (.int .i64 70)] r1.2).bind fun r3 =>
  asS r3.1 fun x4 =>
  seqJ
  (bif p3 then
    ((lenS (.s x4)).bind fun l5 =>
      seqJ (overdublaw05_FixedRestores_L1 [.s x2, .s x4, .s (.int .i64 ((l5 : Nat) : Int))] [.s .nilSlice, .s (.int .i64 0)] r3.2)
      (fun _ _ => none)
      (fun vs6 m7 =>
        headK vs6 fun a11 r12 =>
        asB a11 fun b13 =>
        some (.ret, [.s (.bool b13)], m7))
      (fun d10 vs8 m9 =>
        bif Nat.beq 0 d10 then (headK vs8 fun a14 r15 =>
          asS a14 fun x16 =>
          headK r15 fun a17 r18 =>
          asS a17 fun x19 =>
          some (.normal, [.s x19], m9)) else (none)))
    else
    (some (.normal, [.s x4], r3.2)))
  (fun vs20 m21 =>
    headK vs20 fun a22 r23 =>
    asS a22 fun x24 =>
    (fixed_Restore [.s x2, .s x24] m21).bind fun r25 =>
    extrK 0 r25.1 fun t26 =>
    asS t26 fun x27 =>
    extrK 1 r25.1 fun t28 =>
    asI .i64 t28 fun n29 =>
    (overdubref05_Restore [.s x2, .s x24] r25.2).bind fun r30 =>
    extrK 0 r30.1 fun t31 =>
    asS t31 fun x32 =>
    extrK 1 r30.1 fun t33 =>
    asI .i64 t33 fun n34 =>
    bif (n29 == n34) then
    ((overdubkeep_Same_int [.s x27, .s x32] r30.2).bind fun r35 =>
      asB r35.1 fun b36 =>
      bif b36 then
      ((overdublaw05_wakes [] r35.2).bind fun r37 =>
        asB r37.1 fun b38 =>
        some (.s (.bool b38), r37.2))
      else
      (some (.s (.bool false), r35.2)))
    else
    (some (.s (.bool false), r30.2)))
  (fun vs39 m40 =>
    headK vs39 fun a44 r45 =>
    asB a44 fun b46 =>
    some (.s (.bool b46), m40))
  (fun d43 vs41 m42 =>
    none) := by rw [← G7_12, ← G7_20, ← G7_19, ← G7_21, ← G7_15, ← G7_10]; kernel_rfl

/-! ### overdub/overdublaw05.FixedBack -/
noncomputable def G8 : FuncId → FunA := fun g => bif Nat.beq g 12 then overdubkeep_Samples else bif Nat.beq g 9 then overdubkeep_Within else bif Nat.beq g 11 then fixed_Residual else bif Nat.beq g 10 then overdublaw05_wakes else bif Nat.beq g 19 then fixed_Restore else bif Nat.beq g 15 then overdubkeep_Same_int else fun _ _ => none
theorem G8_12 : G8 12 = overdubkeep_Samples := by kernel_rfl
theorem G8_9 : G8 9 = overdubkeep_Within := by kernel_rfl
theorem G8_11 : G8 11 = fixed_Residual := by kernel_rfl
theorem G8_10 : G8 10 = overdublaw05_wakes := by kernel_rfl
theorem G8_19 : G8 19 = fixed_Restore := by kernel_rfl
theorem G8_15 : G8 15 = overdubkeep_Same_int := by kernel_rfl
def A8 : Ann := .two (.leaf) (.two (.leaf) (.two (.leaf) (.two (.two (.leaf) (.two (.two (.leaf) (.two (.leaf) (.leaf))) (.leaf))) (.two (.leaf) (.two (.leaf) (.two (.join [(67, .b)] [0, 1, 7] [] (.leaf) (.two (.two (.leaf) (.leaf)) (.leaf))) (.two (.join [(75, .b)] [0, 1, 7] [] (.leaf) (.two (.two (.leaf) (.leaf)) (.leaf))) (.two (.leaf) (.two (.join [(93, .b)] [7, 11] [] (.leaf) (.two (.two (.leaf) (.leaf)) (.leaf))) (.two (.two (.leaf) (.join [] [] [] (.loop [(96, .i .i64)] [7, 11, 95] [0] (.two (.leaf) (.two (.two (.leaf) (.leaf)) (.two (.join [(7, .s), (11, .s), (95, .i .i64), (96, .i .i64)] [] [] (.two (.leaf) (.two (.ord [0, 1, 2, 3, 4, 5, 6, 7, 8, 9, 10, 11, 12, 13, 14]) (.two (.two (.leaf) (.leaf)) (.leaf)))) .leaf) (.leaf))))) .leaf)) (.two (.leaf) (.leaf))))))))))))
def R8 : Slots := [(4, .b)]
noncomputable def overdublaw05_FixedBack : FunA := denF Try.prog G8 Try.f8 A8 R8
noncomputable def overdublaw05_FixedBack_L1_B (os vs : List AV) (μ : AMem) : Option Res := joinK [(96, .i .i64)] vs (envO [7, 11, 95] os) fun e => den Try.prog G8 Try.f8.ntmps (cL (cL (cR (cL (cR (cR (cR (cR (cR (cR (cR (cR (cR (cR (bodyOf Try.f8))))))))))))))) (aL (aL (aR (aL (aR (aR (aR (aR (aR (aR (aR (aR (aR (aR A8)))))))))))))) { ret := R8, exits := [(0, [])] } Res e μ fun ex e μ => some (ex, valsOf (Lv.at { ret := R8, exits := [(0, [])] } [(96, .i .i64)] ex) e, μ)
noncomputable def overdublaw05_FixedBack_L1 (os vs : List AV) (μ : AMem) : Option Res := loopA (overdublaw05_FixedBack_L1_B os) vs μ
theorem overdublaw05_FixedBack_L1_B_eq (s7 : SV) (s11 : SV) (s95 : Int) (s96 : Int) (μ : AMem) : overdublaw05_FixedBack_L1_B [.s s7, .s s11, .s (.int .i64 s95)] [.s (.int .i64 s96)] μ =
  bif decide (s96 < s95) then
  (indS 1 (.s s11) s96 fun p88 =>
    loadAt μ p88 fun v89 =>
    asI .i64 v89 fun n90 =>
    indS 1 (.s s7) (IntKind.wrap .i64 (s96 + 1)) fun p91 =>
    loadAt μ p91 fun v92 =>
    asI .i64 v92 fun n93 =>
    indS 1 (.s s7) s96 fun p94 =>
    loadAt μ p94 fun v95 =>
    asI .i64 v95 fun n96 =>
    bif (n90 != (IntKind.wrap .i64 (n93 - n96))) then
    (some (.ret, [.s (.bool false)], μ))
    else
    (some (.normal, [.s (.int .i64 (IntKind.wrap .i64 (s96 + 1)))], μ)))
  else
  (some (.exit 0, [], μ)) := by kernel_rfl
theorem overdublaw05_FixedBack_L1_eq (os vs : List AV) (μ : AMem) : overdublaw05_FixedBack_L1 os vs μ = (overdublaw05_FixedBack_L1_B os vs μ).bind fun r => match r.1 with | .normal => overdublaw05_FixedBack_L1 os r.2.1 r.2.2 | _ => some r := loopA_eq _ _ _
theorem overdublaw05_FixedBack_eq (p0 : SV) (p1 : Int) (μ : AMem) : overdublaw05_FixedBack [.s p0, .s (.int .i64 p1)] μ =
  (overdubkeep_Samples [.s p0, .s (.int .i64 64), .s (.bool false)] μ).bind fun r1 =>
  asS r1.1 fun x2 =>
  (overdubkeep_Within [.s (.int .i64 p1), .s (.int .i64 5)] r1.2).bind fun r3 =>
  asI .i64 r3.1 fun n4 =>
  (lenS (.s x2)).bind fun l5 =>
  bif decide (((l5 : Nat) : Int) < n4) then
  ((fixed_Residual [.s x2, .s (.int .i64 n4)] r3.2).bind fun r6 =>
    extrK 0 r6.1 fun t7 =>
    asS t7 fun x8 =>
    extrK 1 r6.1 fun t9 =>
    asI .i64 t9 fun n10 =>
    bif (n10 == 1) then
    ((overdublaw05_wakes [] r6.2).bind fun r11 =>
      asB r11.1 fun b12 =>
      some (.s (.bool b12), r11.2))
    else
    (some (.s (.bool false), r6.2)))
  else
  ((fixed_Residual [.s x2, .s (.int .i64 n4)] r3.2).bind fun r13 =>
    extrK 0 r13.1 fun t14 =>
    asS t14 fun x15 =>
    extrK 1 r13.1 fun t16 =>
    asI .i64 t16 fun n17 =>
    cutS 1 (.s x2) 0 n4 fun x18 =>
    (fixed_Restore [x18, .s x15] r13.2).bind fun r19 =>
    extrK 0 r19.1 fun t20 =>
    asS t20 fun x21 =>
    extrK 1 r19.1 fun t22 =>
    asI .i64 t22 fun n23 =>
    seqJ
    (bif !(n17 != 0) then
      (bif !(n23 != 0) then
        ((overdubkeep_Same_int [.s x21, .s x2] r19.2).bind fun r24 =>
          asB r24.1 fun b25 =>
          bif !(!b25) then
          ((lenS (.s x15)).bind fun l26 =>
            (lenS (.s x2)).bind fun l27 =>
            some (.normal, [.s (.bool (((l26 : Nat) : Int) != (IntKind.wrap .i64 (((l27 : Nat) : Int) - n4))))], r24.2))
          else
          (some (.normal, [.s (.bool true)], r24.2)))
        else
        (some (.normal, [.s (.bool true)], r19.2)))
      else
      (some (.normal, [.s (.bool true)], r19.2)))
    (fun vs28 m29 =>
      headK vs28 fun a30 r31 =>
      asB a30 fun b32 =>
      bif b32 then
      (some (.s (.bool false), m29))
      else
      (seqJ
        (bif !(n4 == 4) then
          ((lenS (.s x2)).bind fun l33 =>
            some (.normal, [.s (.bool (decide (((l33 : Nat) : Int) ≤ n4)))], m29))
          else
          (some (.normal, [.s (.bool true)], m29)))
        (fun vs34 m35 =>
          headK vs34 fun a36 r37 =>
          asB a36 fun b38 =>
          bif b38 then
          ((overdublaw05_wakes [] m35).bind fun r39 =>
            asB r39.1 fun b40 =>
            some (.s (.bool b40), r39.2))
          else
          ((fixed_Residual [.s x2, .s (.int .i64 (IntKind.wrap .i64 (n4 + 1)))] m35).bind fun r41 =>
            extrK 0 r41.1 fun t42 =>
            asS t42 fun x43 =>
            extrK 1 r41.1 fun t44 =>
            asI .i64 t44 fun n45 =>
            seqJ
            (bif !(n45 != 0) then
              ((lenS (.s x43)).bind fun l46 =>
                (lenS (.s x15)).bind fun l47 =>
                some (.normal, [.s (.bool (((l46 : Nat) : Int) != (IntKind.wrap .i64 (((l47 : Nat) : Int) - 1))))], r41.2))
              else
              (some (.normal, [.s (.bool true)], r41.2)))
            (fun vs48 m49 =>
              headK vs48 fun a50 r51 =>
              asB a50 fun b52 =>
              bif b52 then
              (some (.s (.bool false), m49))
              else
              ((lenS (.s x43)).bind fun l53 =>
                seqJ (overdublaw05_FixedBack_L1 [.s x15, .s x43, .s (.int .i64 ((l53 : Nat) : Int))] [.s (.int .i64 0)] m49)
                (fun _ _ => none)
                (fun vs54 m55 =>
                  headK vs54 fun a59 r60 =>
                  asB a59 fun b61 =>
                  some (.s (.bool b61), m55))
                (fun d58 vs56 m57 =>
                  bif Nat.beq 0 d58 then ((overdublaw05_wakes [] m57).bind fun r62 =>
                    asB r62.1 fun b63 =>
                    some (.s (.bool b63), r62.2)) else (none))))
            (fun vs64 m65 =>
              headK vs64 fun a69 r70 =>
              asB a69 fun b71 =>
              some (.s (.bool b71), m65))
            (fun d68 vs66 m67 =>
              none)))
        (fun vs72 m73 =>
          headK vs72 fun a77 r78 =>
          asB a77 fun b79 =>
          some (.s (.bool b79), m73))
        (fun d76 vs74 m75 =>
          none)))
    (fun vs80 m81 =>
      headK vs80 fun a85 r86 =>
      asB a85 fun b87 =>
      some (.s (.bool b87), m81))
    (fun d84 vs82 m83 =>
      none)) := by rw [← G8_12, ← G8_9, ← G8_11, ← G8_10, ← G8_19, ← G8_15]; kernel_rfl

end Go.Proofs.Ytchapaejdgnihaa
