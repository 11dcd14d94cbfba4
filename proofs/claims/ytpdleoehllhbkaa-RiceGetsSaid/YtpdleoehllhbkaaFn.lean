/- The Go functions as plain functions over abstract memory, and what each comes to. -/
import Derived.Test.YtpdleoehllhbkaaProg
import Derived.KernelRfl
import Derived.Test.YtpdleoehllhbkaaE0
namespace Go.Proofs.Ytpdleoehllhbkaa
open Go Go.Proofs.Ytpdleoehllhbkaa.E
set_option maxRecDepth 100000
set_option linter.unusedVariables false
/-! ### overdub/overdubkeep.Within -/
noncomputable def G10 : FuncId → FunA := fun _ _ _ => none
def A10 : Ann := .two (.leaf) (.two (.two (.leaf) (.two (.two (.leaf) (.leaf)) (.leaf))) (.two (.leaf) (.join [(5, .i .i64)] [] [] (.two (.leaf) (.two (.leaf) (.leaf))) (.two (.leaf) (.leaf)))))
def R10 : Slots := [(4, .i .i64)]
noncomputable def overdubkeep_Within : FunA := denF Try.prog G10 Try.f10 A10 R10
theorem overdubkeep_Within_eq (p0 : Int) (p1 : Int) (μ : AMem) : overdubkeep_Within [.s (.int .i64 p0), .s (.int .i64 p1)] μ =
  bif decide (p1 < 1) then
  (some (.s (.int .i64 0), μ))
  else
  (if p1 = 0 then none else
    (seqJ
      (bif decide ((Int.tmod p0 p1) < 0) then
        (some (.normal, [.s (.int .i64 (IntKind.wrap .i64 ((Int.tmod p0 p1) + p1)))], μ))
        else
        (some (.normal, [.s (.int .i64 (Int.tmod p0 p1))], μ)))
      (fun vs1 m2 =>
        headK vs1 fun a3 r4 =>
        asI .i64 a3 fun n5 =>
        some (.s (.int .i64 n5), m2))
      (fun vs6 m7 =>
        headK vs6 fun a11 r12 =>
        asI .i64 a11 fun n13 =>
        some (.s (.int .i64 n13), m7))
      (fun d10 vs8 m9 =>
        none))) := by kernel_rfl

/-! ### overdub/rice.may -/
noncomputable def G35 : FuncId → FunA := fun _ _ _ => none
def A35 : Ann := .two (.leaf) (.two (.leaf) (.leaf))
def R35 : Slots := [(4, .b)]
noncomputable def rice_may : FunA := denF Try.prog G35 Try.f35 A35 R35
theorem rice_may_eq (p0 : Int) (p1 : Int) (μ : AMem) : rice_may [.s (.int .i64 p0), .s (.int .i64 p1)] μ =
  bif decide (p0 ≥ 0) then
  (bif decide (p0 < 4294967296) then
    (bif decide (p1 ≥ 0) then
      (some (.s (.bool (decide (p1 ≤ 24))), μ))
      else
      (some (.s (.bool false), μ)))
    else
    (some (.s (.bool false), μ)))
  else
  (some (.s (.bool false), μ)) := by kernel_rfl

/-! ### overdub/rice.Size -/
noncomputable def G11 : FuncId → FunA := fun g => bif Nat.beq g 35 then rice_may else fun _ _ => none
theorem G11_35 : G11 35 = rice_may := by kernel_rfl
def A11 : Ann := .two (.leaf) (.two (.join [] [] [] (.two (.leaf) (.two (.two (.leaf) (.leaf)) (.two (.leaf) (.two (.two (.leaf) (.leaf)) (.leaf))))) .leaf) (.two (.leaf) (.leaf)))
def R11 : Slots := [(4, .i .i64)]
noncomputable def rice_Size : FunA := denF Try.prog G11 Try.f11 A11 R11
theorem rice_Size_eq (p0 : Int) (p1 : Int) (μ : AMem) : rice_Size [.s (.int .i64 p0), .s (.int .i64 p1)] μ =
  (rice_may [.s (.int .i64 p0), .s (.int .i64 p1)] μ).bind fun r1 =>
  asB r1.1 fun b2 =>
  bif (!b2) then
  (some (.s (.int .i64 0), r1.2))
  else
  (if p1 < 0 then none else
    (bif decide ((Int.fdiv p0 (2 ^ (min (Int.toNat p1) (IntKind.bits .i64)))) < 24) then
      (if p1 < 0 then none else
        (some (.s (.int .i64 (IntKind.wrap .i64 ((IntKind.wrap .i64 ((Int.fdiv p0 (2 ^ (min (Int.toNat p1) (IntKind.bits .i64)))) + 1)) + p1))), r1.2)))
      else
      (some (.s (.int .i64 56), r1.2)))) := by rw [← G11_35]; kernel_rfl

/-! ### overdub/rice.Zig -/
noncomputable def G12 : FuncId → FunA := fun _ _ _ => none
def A12 : Ann := .two (.leaf) (.two (.join [(0, .i .i64)] [] [] (.join [(3, .b)] [0] [] (.leaf) (.two (.two (.leaf) (.leaf)) (.two (.leaf) (.two (.two (.leaf) (.leaf)) (.leaf))))) .leaf) (.two (.leaf) (.leaf)))
def R12 : Slots := [(2, .i .i64)]
noncomputable def rice_Zig : FunA := denF Try.prog G12 Try.f12 A12 R12
theorem rice_Zig_eq (p0 : Int) (μ : AMem) : rice_Zig [.s (.int .i64 p0)] μ =
  seqJ
  (bif !(decide (p0 < (-1099511627776))) then
    (some (.normal, [.s (.bool (decide (p0 ≥ 1099511627776)))], μ))
    else
    (some (.normal, [.s (.bool true)], μ)))
  (fun vs1 m2 =>
    headK vs1 fun a3 r4 =>
    asB a3 fun b5 =>
    bif b5 then
    (some (.s (.int .i64 0), m2))
    else
    (bif decide (p0 < 0) then
      (some (.s (.int .i64 (IntKind.wrap .i64 ((IntKind.wrap .i64 ((-2) * p0)) - 1))), m2))
      else
      (some (.s (.int .i64 (IntKind.wrap .i64 (2 * p0))), m2))))
  (fun vs6 m7 =>
    headK vs6 fun a11 r12 =>
    asI .i64 a11 fun n13 =>
    some (.s (.int .i64 n13), m7))
  (fun d10 vs8 m9 =>
    none) := by kernel_rfl

/-! ### overdub/overdublaw02.wakes -/
noncomputable def G13 : FuncId → FunA := fun g => bif Nat.beq g 11 then rice_Size else bif Nat.beq g 12 then rice_Zig else fun _ _ => none
theorem G13_11 : G13 11 = rice_Size := by kernel_rfl
theorem G13_12 : G13 12 = rice_Zig := by kernel_rfl
def A13 : Ann := .two (.leaf) (.two (.leaf) (.leaf))
def R13 : Slots := [(0, .b)]
noncomputable def overdublaw02_wakes : FunA := denF Try.prog G13 Try.f13 A13 R13
theorem overdublaw02_wakes_eq  (μ : AMem) : overdublaw02_wakes [] μ =
  (rice_Size [.s (.int .i64 5), .s (.int .i64 1)] μ).bind fun r1 =>
  asI .i64 r1.1 fun n2 =>
  bif (n2 == 4) then
  ((rice_Zig [.s (.int .i64 (-1))] r1.2).bind fun r3 =>
    asI .i64 r3.1 fun n4 =>
    some (.s (.bool (n4 == 1)), r3.2))
  else
  (some (.s (.bool false), r1.2)) := by rw [← G13_11, ← G13_12]; kernel_rfl

/-! ### overdub/overdublaw02.RiceRises -/
noncomputable def G3 : FuncId → FunA := fun g => bif Nat.beq g 10 then overdubkeep_Within else bif Nat.beq g 11 then rice_Size else bif Nat.beq g 12 then rice_Zig else bif Nat.beq g 13 then overdublaw02_wakes else fun _ _ => none
theorem G3_10 : G3 10 = overdubkeep_Within := by kernel_rfl
theorem G3_11 : G3 11 = rice_Size := by kernel_rfl
theorem G3_12 : G3 12 = rice_Zig := by kernel_rfl
theorem G3_13 : G3 13 = overdublaw02_wakes := by kernel_rfl
def A3 : Ann := .two (.leaf) (.two (.leaf) (.join [(0, .i .i64), (1, .i .i64)] [2] [] (.two (.leaf) (.two (.leaf) (.leaf))) (.two (.join [(32, .b)] [0, 1, 2] [] (.leaf) (.two (.two (.leaf) (.leaf)) (.leaf))) (.two (.leaf) (.leaf)))))
def R3 : Slots := [(6, .b)]
noncomputable def overdublaw02_RiceRises : FunA := denF Try.prog G3 Try.f3 A3 R3
theorem overdublaw02_RiceRises_eq (p0 : Int) (p1 : Int) (p2 : Int) (μ : AMem) : overdublaw02_RiceRises [.s (.int .i64 p0), .s (.int .i64 p1), .s (.int .i64 p2)] μ =
  (overdubkeep_Within [.s (.int .i64 p0), .s (.int .i64 1073741824)] μ).bind fun r1 =>
  asI .i64 r1.1 fun n2 =>
  (overdubkeep_Within [.s (.int .i64 p1), .s (.int .i64 1073741824)] r1.2).bind fun r3 =>
  asI .i64 r3.1 fun n4 =>
  (overdubkeep_Within [.s (.int .i64 p2), .s (.int .i64 25)] r3.2).bind fun r5 =>
  asI .i64 r5.1 fun n6 =>
  seqJ
  (bif decide (n2 > n4) then
    (some (.normal, [.s (.int .i64 n4), .s (.int .i64 n2)], r5.2))
    else
    (some (.normal, [.s (.int .i64 n2), .s (.int .i64 n4)], r5.2)))
  (fun vs7 m8 =>
    headK vs7 fun a9 r10 =>
    asI .i64 a9 fun n11 =>
    headK r10 fun a12 r13 =>
    asI .i64 a12 fun n14 =>
    seqJ
    ((rice_Size [.s (.int .i64 n11), .s (.int .i64 n6)] m8).bind fun r15 =>
      asI .i64 r15.1 fun n16 =>
      (rice_Size [.s (.int .i64 n14), .s (.int .i64 n6)] r15.2).bind fun r17 =>
      asI .i64 r17.1 fun n18 =>
      bif !(decide (n16 > n18)) then
      ((rice_Size [.s (.int .i64 n11), .s (.int .i64 n6)] r17.2).bind fun r19 =>
        asI .i64 r19.1 fun n20 =>
        some (.normal, [.s (.bool (decide (n20 < (IntKind.wrap .i64 (1 + n6)))))], r19.2))
      else
      (some (.normal, [.s (.bool true)], r17.2)))
    (fun vs21 m22 =>
      headK vs21 fun a23 r24 =>
      asB a23 fun b25 =>
      bif b25 then
      (some (.s (.bool false), m22))
      else
      (bif !(n11 == n14) then
        ((rice_Zig [.s (.int .i64 n11)] m22).bind fun r26 =>
          asI .i64 r26.1 fun n27 =>
          (rice_Zig [.s (.int .i64 n14)] r26.2).bind fun r28 =>
          asI .i64 r28.1 fun n29 =>
          bif decide (n27 < n29) then
          ((rice_Zig [.s (.int .i64 (IntKind.wrap .i64 (0 - n11)))] r28.2).bind fun r30 =>
            asI .i64 r30.1 fun n31 =>
            (rice_Zig [.s (.int .i64 (IntKind.wrap .i64 (0 - n14)))] r30.2).bind fun r32 =>
            asI .i64 r32.1 fun n33 =>
            bif decide (n31 < n33) then
            ((rice_Zig [.s (.int .i64 n11)] r32.2).bind fun r34 =>
              asI .i64 r34.1 fun n35 =>
              bif (n35 == (IntKind.wrap .i64 (2 * n11))) then
              (bif !(n11 == 0) then
                ((rice_Zig [.s (.int .i64 (IntKind.wrap .i64 (0 - n11)))] r34.2).bind fun r36 =>
                  asI .i64 r36.1 fun n37 =>
                  bif (n37 == (IntKind.wrap .i64 ((IntKind.wrap .i64 (2 * n11)) - 1))) then
                  ((rice_Size [.s (.int .i64 n14), .s (.int .i64 n6)] r36.2).bind fun r38 =>
                    asI .i64 r38.1 fun n39 =>
                    bif decide (n39 ≤ 56) then
                    ((overdublaw02_wakes [] r38.2).bind fun r40 =>
                      asB r40.1 fun b41 =>
                      some (.s (.bool b41), r40.2))
                    else
                    (some (.s (.bool false), r38.2)))
                  else
                  (some (.s (.bool false), r36.2)))
                else
                ((rice_Size [.s (.int .i64 n14), .s (.int .i64 n6)] r34.2).bind fun r42 =>
                  asI .i64 r42.1 fun n43 =>
                  bif decide (n43 ≤ 56) then
                  ((overdublaw02_wakes [] r42.2).bind fun r44 =>
                    asB r44.1 fun b45 =>
                    some (.s (.bool b45), r44.2))
                  else
                  (some (.s (.bool false), r42.2))))
              else
              (some (.s (.bool false), r34.2)))
            else
            (some (.s (.bool false), r32.2)))
          else
          (some (.s (.bool false), r28.2)))
        else
        ((rice_Zig [.s (.int .i64 n11)] m22).bind fun r46 =>
          asI .i64 r46.1 fun n47 =>
          bif (n47 == (IntKind.wrap .i64 (2 * n11))) then
          (bif !(n11 == 0) then
            ((rice_Zig [.s (.int .i64 (IntKind.wrap .i64 (0 - n11)))] r46.2).bind fun r48 =>
              asI .i64 r48.1 fun n49 =>
              bif (n49 == (IntKind.wrap .i64 ((IntKind.wrap .i64 (2 * n11)) - 1))) then
              ((rice_Size [.s (.int .i64 n14), .s (.int .i64 n6)] r48.2).bind fun r50 =>
                asI .i64 r50.1 fun n51 =>
                bif decide (n51 ≤ 56) then
                ((overdublaw02_wakes [] r50.2).bind fun r52 =>
                  asB r52.1 fun b53 =>
                  some (.s (.bool b53), r52.2))
                else
                (some (.s (.bool false), r50.2)))
              else
              (some (.s (.bool false), r48.2)))
            else
            ((rice_Size [.s (.int .i64 n14), .s (.int .i64 n6)] r46.2).bind fun r54 =>
              asI .i64 r54.1 fun n55 =>
              bif decide (n55 ≤ 56) then
              ((overdublaw02_wakes [] r54.2).bind fun r56 =>
                asB r56.1 fun b57 =>
                some (.s (.bool b57), r56.2))
              else
              (some (.s (.bool false), r54.2))))
          else
          (some (.s (.bool false), r46.2)))))
    (fun vs58 m59 =>
      headK vs58 fun a63 r64 =>
      asB a63 fun b65 =>
      some (.s (.bool b65), m59))
    (fun d62 vs60 m61 =>
      none))
  (fun vs66 m67 =>
    headK vs66 fun a71 r72 =>
    asB a71 fun b73 =>
    some (.s (.bool b73), m67))
  (fun d70 vs68 m69 =>
    none) := by rw [← G3_10, ← G3_11, ← G3_12, ← G3_13]; kernel_rfl

/-! ### overdub/overdubref01.Zig -/
noncomputable def G14 : FuncId → FunA := fun _ _ _ => none
def A14 : Ann := .two (.leaf) (.two (.join [(8, .b)] [0] [] (.leaf) (.two (.two (.leaf) (.leaf)) (.leaf))) (.two (.two (.leaf) (.two (.two (.leaf) (.leaf)) (.leaf))) (.two (.leaf) (.leaf))))
def R14 : Slots := [(2, .i .i64)]
noncomputable def overdubref01_Zig : FunA := denF Try.prog G14 Try.f14 A14 R14
theorem overdubref01_Zig_eq (p0 : Int) (μ : AMem) : overdubref01_Zig [.s (.int .i64 p0)] μ =
  seqJ
  (bif !(decide (p0 < (-1099511627776))) then
    (some (.normal, [.s (.bool (decide (p0 ≥ 1099511627776)))], μ))
    else
    (some (.normal, [.s (.bool true)], μ)))
  (fun vs1 m2 =>
    headK vs1 fun a3 r4 =>
    asB a3 fun b5 =>
    bif b5 then
    (some (.s (.int .i64 0), m2))
    else
    (bif decide (p0 < 0) then
      (some (.s (.int .i64 (IntKind.wrap .i64 ((IntKind.wrap .i64 ((-2) * p0)) - 1))), m2))
      else
      (some (.s (.int .i64 (IntKind.wrap .i64 (2 * p0))), m2))))
  (fun vs6 m7 =>
    headK vs6 fun a11 r12 =>
    asI .i64 a11 fun n13 =>
    some (.s (.int .i64 n13), m7))
  (fun d10 vs8 m9 =>
    none) := by kernel_rfl

/-! ### overdub/rice.Zag -/
noncomputable def G15 : FuncId → FunA := fun _ _ _ => none
def A15 : Ann := .two (.leaf) (.two (.join [(0, .i .i64)] [] [] (.join [(3, .b)] [0] [] (.leaf) (.two (.two (.leaf) (.leaf)) (.two (.leaf) (.two (.two (.leaf) (.leaf)) (.leaf))))) .leaf) (.two (.leaf) (.leaf)))
def R15 : Slots := [(2, .i .i64)]
noncomputable def rice_Zag : FunA := denF Try.prog G15 Try.f15 A15 R15
theorem rice_Zag_eq (p0 : Int) (μ : AMem) : rice_Zag [.s (.int .i64 p0)] μ =
  seqJ
  (bif !(decide (p0 < 0)) then
    (some (.normal, [.s (.bool (decide (p0 ≥ 2199023255552)))], μ))
    else
    (some (.normal, [.s (.bool true)], μ)))
  (fun vs1 m2 =>
    headK vs1 fun a3 r4 =>
    asB a3 fun b5 =>
    bif b5 then
    (some (.s (.int .i64 0), m2))
    else
    (bif ((Int.tmod p0 2) == 1) then
      (some (.s (.int .i64 (IntKind.wrap .i64 (Int.tdiv (IntKind.wrap .i64 (0 - (IntKind.wrap .i64 (p0 + 1)))) 2))), m2))
      else
      (some (.s (.int .i64 (IntKind.wrap .i64 (Int.tdiv p0 2))), m2))))
  (fun vs6 m7 =>
    headK vs6 fun a11 r12 =>
    asI .i64 a11 fun n13 =>
    some (.s (.int .i64 n13), m7))
  (fun d10 vs8 m9 =>
    none) := by kernel_rfl

/-! ### overdub/overdubref01.Zag -/
noncomputable def G16 : FuncId → FunA := fun _ _ _ => none
def A16 : Ann := .two (.leaf) (.two (.join [(8, .b)] [0] [] (.leaf) (.two (.two (.leaf) (.leaf)) (.leaf))) (.two (.two (.leaf) (.two (.two (.leaf) (.leaf)) (.leaf))) (.two (.leaf) (.leaf))))
def R16 : Slots := [(2, .i .i64)]
noncomputable def overdubref01_Zag : FunA := denF Try.prog G16 Try.f16 A16 R16
theorem overdubref01_Zag_eq (p0 : Int) (μ : AMem) : overdubref01_Zag [.s (.int .i64 p0)] μ =
  seqJ
  (bif !(decide (p0 < 0)) then
    (some (.normal, [.s (.bool (decide (p0 ≥ 2199023255552)))], μ))
    else
    (some (.normal, [.s (.bool true)], μ)))
  (fun vs1 m2 =>
    headK vs1 fun a3 r4 =>
    asB a3 fun b5 =>
    bif b5 then
    (some (.s (.int .i64 0), m2))
    else
    (bif ((Int.tmod p0 2) == 1) then
      (some (.s (.int .i64 (IntKind.wrap .i64 (Int.tdiv (IntKind.wrap .i64 (0 - (IntKind.wrap .i64 (p0 + 1)))) 2))), m2))
      else
      (some (.s (.int .i64 (IntKind.wrap .i64 (Int.tdiv p0 2))), m2))))
  (fun vs6 m7 =>
    headK vs6 fun a11 r12 =>
    asI .i64 a11 fun n13 =>
    some (.s (.int .i64 n13), m7))
  (fun d10 vs8 m9 =>
    none) := by kernel_rfl

/-! ### overdub/overdublaw02.RiceZigs -/
noncomputable def G4 : FuncId → FunA := fun g => bif Nat.beq g 12 then rice_Zig else bif Nat.beq g 14 then overdubref01_Zig else bif Nat.beq g 15 then rice_Zag else bif Nat.beq g 16 then overdubref01_Zag else bif Nat.beq g 13 then overdublaw02_wakes else fun _ _ => none
theorem G4_12 : G4 12 = rice_Zig := by kernel_rfl
theorem G4_14 : G4 14 = overdubref01_Zig := by kernel_rfl
theorem G4_15 : G4 15 = rice_Zag := by kernel_rfl
theorem G4_16 : G4 16 = overdubref01_Zag := by kernel_rfl
theorem G4_13 : G4 13 = overdublaw02_wakes := by kernel_rfl
def A4 : Ann := .two (.leaf) (.two (.leaf) (.two (.join [(16, .b)] [0, 3] [] (.leaf) (.two (.two (.leaf) (.leaf)) (.leaf))) (.two (.join [(32, .b)] [0] [] (.leaf) (.two (.two (.leaf) (.leaf)) (.leaf))) (.two (.leaf) (.leaf)))))
def R4 : Slots := [(2, .b)]
noncomputable def overdublaw02_RiceZigs : FunA := denF Try.prog G4 Try.f4 A4 R4
theorem overdublaw02_RiceZigs_eq (p0 : Int) (μ : AMem) : overdublaw02_RiceZigs [.s (.int .i64 p0)] μ =
  (rice_Zig [.s (.int .i64 p0)] μ).bind fun r1 =>
  asI .i64 r1.1 fun n2 =>
  seqJ
  ((overdubref01_Zig [.s (.int .i64 p0)] r1.2).bind fun r3 =>
    asI .i64 r3.1 fun n4 =>
    bif !(n2 != n4) then
    ((rice_Zag [.s (.int .i64 p0)] r3.2).bind fun r5 =>
      asI .i64 r5.1 fun n6 =>
      (overdubref01_Zag [.s (.int .i64 p0)] r5.2).bind fun r7 =>
      asI .i64 r7.1 fun n8 =>
      some (.normal, [.s (.bool (n6 != n8))], r7.2))
    else
    (some (.normal, [.s (.bool true)], r3.2)))
  (fun vs9 m10 =>
    headK vs9 fun a11 r12 =>
    asB a11 fun b13 =>
    bif b13 then
    (some (.s (.bool false), m10))
    else
    (seqJ
      (bif decide (p0 ≥ (-1099511627776)) then
        (bif decide (p0 < 1099511627776) then
          ((rice_Zag [.s (.int .i64 n2)] m10).bind fun r14 =>
            asI .i64 r14.1 fun n15 =>
            bif !(n15 != p0) then
            (some (.normal, [.s (.bool (decide (n2 < 0)))], r14.2))
            else
            (some (.normal, [.s (.bool true)], r14.2)))
          else
          (some (.normal, [.s (.bool false)], m10)))
        else
        (some (.normal, [.s (.bool false)], m10)))
      (fun vs16 m17 =>
        headK vs16 fun a18 r19 =>
        asB a18 fun b20 =>
        bif b20 then
        (some (.s (.bool false), m17))
        else
        (bif !(decide (p0 < 0)) then
          (bif !(decide (p0 ≥ 2199023255552)) then
            ((rice_Zag [.s (.int .i64 p0)] m17).bind fun r21 =>
              asI .i64 r21.1 fun n22 =>
              (rice_Zig [.s (.int .i64 n22)] r21.2).bind fun r23 =>
              asI .i64 r23.1 fun n24 =>
              bif (n24 == p0) then
              ((overdublaw02_wakes [] r23.2).bind fun r25 =>
                asB r25.1 fun b26 =>
                some (.s (.bool b26), r25.2))
              else
              (some (.s (.bool false), r23.2)))
            else
            ((overdublaw02_wakes [] m17).bind fun r27 =>
              asB r27.1 fun b28 =>
              some (.s (.bool b28), r27.2)))
          else
          ((overdublaw02_wakes [] m17).bind fun r29 =>
            asB r29.1 fun b30 =>
            some (.s (.bool b30), r29.2))))
      (fun vs31 m32 =>
        headK vs31 fun a36 r37 =>
        asB a36 fun b38 =>
        some (.s (.bool b38), m32))
      (fun d35 vs33 m34 =>
        none)))
  (fun vs39 m40 =>
    headK vs39 fun a44 r45 =>
    asB a44 fun b46 =>
    some (.s (.bool b46), m40))
  (fun d43 vs41 m42 =>
    none) := by rw [← G4_12, ← G4_14, ← G4_15, ← G4_16, ← G4_13]; kernel_rfl

/-! ### overdub/rice.Best -/
noncomputable def G17 : FuncId → FunA := fun g => bif Nat.beq g 35 then rice_may else bif Nat.beq g 11 then rice_Size else fun _ _ => none
theorem G17_35 : G17 35 = rice_may := by kernel_rfl
theorem G17_11 : G17 11 = rice_Size := by kernel_rfl
def A17 : Ann := .two (.leaf) (.two (.two (.leaf) (.join [(0, .s), (2, .i .i64), (3, .i .i64)] [] [] (.loop [(2, .i .i64), (3, .i .i64), (12, .i .i64)] [0, 10, 11] [0] (.two (.leaf) (.two (.two (.leaf) (.leaf)) (.two (.join [(0, .s), (2, .i .i64), (3, .i .i64), (10, .s), (11, .i .i64), (12, .i .i64)] [] [] (.two (.leaf) (.two (.leaf) (.two (.two (.leaf) (.leaf)) (.leaf)))) .leaf) (.leaf))))) .leaf)) (.two (.two (.leaf) (.join [(2, .i .i64), (3, .i .i64)] [] [] (.loop [(2, .i .i64), (3, .i .i64), (20, .i .i64)] [0] [2] (.two (.leaf) (.two (.two (.leaf) (.leaf)) (.join [(2, .i .i64), (3, .i .i64)] [0, 20] [] (.join [(0, .s), (2, .i .i64), (3, .i .i64), (20, .i .i64)] [] [] (.two (.leaf) (.two (.leaf) (.two (.two (.leaf) (.join [(0, .s), (2, .i .i64), (3, .i .i64), (6, .i .i64), (7, .i .i64), (20, .i .i64)] [] [] (.loop [(7, .i .i64), (25, .i .i64)] [0, 2, 3, 6, 20, 23, 24] [4] (.two (.leaf) (.two (.two (.leaf) (.leaf)) (.two (.join [(0, .s), (2, .i .i64), (3, .i .i64), (6, .i .i64), (7, .i .i64), (20, .i .i64), (23, .s), (24, .i .i64), (25, .i .i64)] [] [] (.two (.leaf) (.leaf)) .leaf) (.leaf))))) .leaf)) (.join [(41, .b)] [0, 2, 3, 6, 7, 20] [] (.leaf) (.two (.leaf) (.leaf)))))) .leaf) (.leaf))))) .leaf)) (.two (.leaf) (.leaf))))
def R17 : Slots := [(2, .i .i64), (3, .i .i64)]
noncomputable def rice_Best : FunA := denF Try.prog G17 Try.f17 A17 R17
noncomputable def rice_Best_L3_B (os vs : List AV) (μ : AMem) : Option Res := joinK [(7, .i .i64), (25, .i .i64)] vs (envO [0, 2, 3, 6, 20, 23, 24] os) fun e => den Try.prog G17 Try.f17.ntmps (cL (cL (cR (cL (cR (cR (cL (cL (cR (cR (cL (cL (cR (cL (cR (cR (bodyOf Try.f17))))))))))))))))) (aL (aL (aR (aL (aR (aR (aL (aL (aR (aR (aL (aL (aR (aL (aR (aR A17)))))))))))))))) { ret := R17, exits := [(4, [(0, .s), (2, .i .i64), (3, .i .i64), (6, .i .i64), (7, .i .i64), (20, .i .i64)]), (3, [(0, .s), (2, .i .i64), (3, .i .i64), (20, .i .i64)]), (2, [(2, .i .i64), (3, .i .i64)])] } Res e μ fun ex e μ => some (ex, valsOf (Lv.at { ret := R17, exits := [(4, [(0, .s), (2, .i .i64), (3, .i .i64), (6, .i .i64), (7, .i .i64), (20, .i .i64)]), (3, [(0, .s), (2, .i .i64), (3, .i .i64), (20, .i .i64)]), (2, [(2, .i .i64), (3, .i .i64)])] } [(7, .i .i64), (25, .i .i64)] ex) e, μ)
noncomputable def rice_Best_L3 (os vs : List AV) (μ : AMem) : Option Res := loopA (rice_Best_L3_B os) vs μ
noncomputable def rice_Best_L2_B (os vs : List AV) (μ : AMem) : Option Res := joinK [(2, .i .i64), (3, .i .i64), (20, .i .i64)] vs (envO [0] os) fun e => den Try.prog G17 Try.f17.ntmps (cL (cL (cR (cL (cR (cR (bodyOf Try.f17))))))) (aL (aL (aR (aL (aR (aR A17)))))) { ret := R17, exits := [(2, [(2, .i .i64), (3, .i .i64)])] } Res e μ fun ex e μ => some (ex, valsOf (Lv.at { ret := R17, exits := [(2, [(2, .i .i64), (3, .i .i64)])] } [(2, .i .i64), (3, .i .i64), (20, .i .i64)] ex) e, μ)
noncomputable def rice_Best_L2 (os vs : List AV) (μ : AMem) : Option Res := loopA (rice_Best_L2_B os) vs μ
noncomputable def rice_Best_L1_B (os vs : List AV) (μ : AMem) : Option Res := joinK [(2, .i .i64), (3, .i .i64), (12, .i .i64)] vs (envO [0, 10, 11] os) fun e => den Try.prog G17 Try.f17.ntmps (cL (cL (cR (cL (cR (bodyOf Try.f17)))))) (aL (aL (aR (aL (aR A17))))) { ret := R17, exits := [(0, [(0, .s), (2, .i .i64), (3, .i .i64)])] } Res e μ fun ex e μ => some (ex, valsOf (Lv.at { ret := R17, exits := [(0, [(0, .s), (2, .i .i64), (3, .i .i64)])] } [(2, .i .i64), (3, .i .i64), (12, .i .i64)] ex) e, μ)
noncomputable def rice_Best_L1 (os vs : List AV) (μ : AMem) : Option Res := loopA (rice_Best_L1_B os) vs μ
theorem rice_Best_L3_B_eq (s0 : SV) (s2 : Int) (s3 : Int) (s6 : Int) (s20 : Int) (s23 : SV) (s24 : Int) (s7 : Int) (s25 : Int) (μ : AMem) : rice_Best_L3_B [.s s0, .s (.int .i64 s2), .s (.int .i64 s3), .s (.int .i64 s6), .s (.int .i64 s20), .s s23, .s (.int .i64 s24)] [.s (.int .i64 s7), .s (.int .i64 s25)] μ =
  bif decide (s25 < s24) then
  (indS 1 (.s s23) s25 fun p109 =>
    loadAt μ p109 fun v110 =>
    asI .i64 v110 fun n111 =>
    (rice_Size [.s (.int .i64 n111), .s (.int .i64 s6)] μ).bind fun r112 =>
    asI .i64 r112.1 fun n113 =>
    some (.normal, [.s (.int .i64 (IntKind.wrap .i64 (s7 + n113))), .s (.int .i64 (IntKind.wrap .i64 (s25 + 1)))], r112.2))
  else
  (some (.exit 4, [.s s0, .s (.int .i64 s2), .s (.int .i64 s3), .s (.int .i64 s6), .s (.int .i64 s7), .s (.int .i64 s20)], μ)) := by rw [← G17_11]; kernel_rfl
theorem rice_Best_L3_eq (os vs : List AV) (μ : AMem) : rice_Best_L3 os vs μ = (rice_Best_L3_B os vs μ).bind fun r => match r.1 with | .normal => rice_Best_L3 os r.2.1 r.2.2 | _ => some r := loopA_eq _ _ _
theorem rice_Best_L2_B_eq (s0 : SV) (s2 : Int) (s3 : Int) (s20 : Int) (μ : AMem) : rice_Best_L2_B [.s s0] [.s (.int .i64 s2), .s (.int .i64 s3), .s (.int .i64 s20)] μ =
  bif decide (s20 < 25) then
  (seqJ
    ((lenS (.s s0)).bind fun l44 =>
      seqJ (rice_Best_L3 [.s s0, .s (.int .i64 s2), .s (.int .i64 s3), .s (.int .i64 s20), .s (.int .i64 s20), .s s0, .s (.int .i64 ((l44 : Nat) : Int))] [.s (.int .i64 0), .s (.int .i64 0)] μ)
      (fun _ _ => none)
      (fun vs45 m46 =>
        headK vs45 fun a50 r51 =>
        asI .i64 a50 fun n52 =>
        headK r51 fun a53 r54 =>
        asI .i64 a53 fun n55 =>
        some (.ret, [.s (.int .i64 n52), .s (.int .i64 n55)], m46))
      (fun d49 vs47 m48 =>
        bif Nat.beq 4 d49 then (headK vs47 fun a56 r57 =>
          asS a56 fun x58 =>
          headK r57 fun a59 r60 =>
          asI .i64 a59 fun n61 =>
          headK r60 fun a62 r63 =>
          asI .i64 a62 fun n64 =>
          headK r63 fun a65 r66 =>
          asI .i64 a65 fun n67 =>
          headK r66 fun a68 r69 =>
          asI .i64 a68 fun n70 =>
          headK r69 fun a71 r72 =>
          asI .i64 a71 fun n73 =>
          seqJ
          (bif !(n67 == 0) then
            (some (.normal, [.s (.bool (decide (n70 < n64)))], m48))
            else
            (some (.normal, [.s (.bool true)], m48)))
          (fun vs74 m75 =>
            headK vs74 fun a76 r77 =>
            asB a76 fun b78 =>
            bif b78 then
            (some (.normal, [.s (.int .i64 n67), .s (.int .i64 n70)], m75))
            else
            (some (.normal, [.s (.int .i64 n61), .s (.int .i64 n64)], m75)))
          (fun vs79 m80 =>
            headK vs79 fun a84 r85 =>
            asI .i64 a84 fun n86 =>
            headK r85 fun a87 r88 =>
            asI .i64 a87 fun n89 =>
            some (.ret, [.s (.int .i64 n86), .s (.int .i64 n89)], m80))
          (fun d83 vs81 m82 =>
            none)) else (none)))
    (fun vs90 m91 =>
      headK vs90 fun a92 r93 =>
      asI .i64 a92 fun n94 =>
      headK r93 fun a95 r96 =>
      asI .i64 a95 fun n97 =>
      some (.normal, [.s (.int .i64 n94), .s (.int .i64 n97), .s (.int .i64 (IntKind.wrap .i64 (s20 + 1)))], m91))
    (fun vs98 m99 =>
      headK vs98 fun a103 r104 =>
      asI .i64 a103 fun n105 =>
      headK r104 fun a106 r107 =>
      asI .i64 a106 fun n108 =>
      some (.ret, [.s (.int .i64 n105), .s (.int .i64 n108)], m99))
    (fun d102 vs100 m101 =>
      none))
  else
  (some (.exit 2, [.s (.int .i64 s2), .s (.int .i64 s3)], μ)) := by kernel_rfl
theorem rice_Best_L2_eq (os vs : List AV) (μ : AMem) : rice_Best_L2 os vs μ = (rice_Best_L2_B os vs μ).bind fun r => match r.1 with | .normal => rice_Best_L2 os r.2.1 r.2.2 | _ => some r := loopA_eq _ _ _
theorem rice_Best_L1_B_eq (s0 : SV) (s10 : SV) (s11 : Int) (s2 : Int) (s3 : Int) (s12 : Int) (μ : AMem) : rice_Best_L1_B [.s s0, .s s10, .s (.int .i64 s11)] [.s (.int .i64 s2), .s (.int .i64 s3), .s (.int .i64 s12)] μ =
  bif decide (s12 < s11) then
  (indS 1 (.s s10) s12 fun p39 =>
    loadAt μ p39 fun v40 =>
    asI .i64 v40 fun n41 =>
    (rice_may [.s (.int .i64 n41), .s (.int .i64 0)] μ).bind fun r42 =>
    asB r42.1 fun b43 =>
    bif (!b43) then
    (some (.ret, [.s (.int .i64 0), .s (.int .i64 0)], r42.2))
    else
    (some (.normal, [.s (.int .i64 s2), .s (.int .i64 s3), .s (.int .i64 (IntKind.wrap .i64 (s12 + 1)))], r42.2)))
  else
  (some (.exit 0, [.s s0, .s (.int .i64 s2), .s (.int .i64 s3)], μ)) := by rw [← G17_35]; kernel_rfl
theorem rice_Best_L1_eq (os vs : List AV) (μ : AMem) : rice_Best_L1 os vs μ = (rice_Best_L1_B os vs μ).bind fun r => match r.1 with | .normal => rice_Best_L1 os r.2.1 r.2.2 | _ => some r := loopA_eq _ _ _
theorem rice_Best_eq (p0 : SV) (μ : AMem) : rice_Best [.s p0] μ =
  (lenS (.s p0)).bind fun l1 =>
  seqJ (rice_Best_L1 [.s p0, .s p0, .s (.int .i64 ((l1 : Nat) : Int))] [.s (.int .i64 0), .s (.int .i64 0), .s (.int .i64 0)] μ)
  (fun _ _ => none)
  (fun vs2 m3 =>
    headK vs2 fun a7 r8 =>
    asI .i64 a7 fun n9 =>
    headK r8 fun a10 r11 =>
    asI .i64 a10 fun n12 =>
    some (.tuple [.s (.int .i64 n9), .s (.int .i64 n12)], m3))
  (fun d6 vs4 m5 =>
    bif Nat.beq 0 d6 then (headK vs4 fun a13 r14 =>
      asS a13 fun x15 =>
      headK r14 fun a16 r17 =>
      asI .i64 a16 fun n18 =>
      headK r17 fun a19 r20 =>
      asI .i64 a19 fun n21 =>
      seqJ (rice_Best_L2 [.s x15] [.s (.int .i64 n18), .s (.int .i64 n21), .s (.int .i64 0)] m5)
      (fun _ _ => none)
      (fun vs22 m23 =>
        headK vs22 fun a27 r28 =>
        asI .i64 a27 fun n29 =>
        headK r28 fun a30 r31 =>
        asI .i64 a30 fun n32 =>
        some (.tuple [.s (.int .i64 n29), .s (.int .i64 n32)], m23))
      (fun d26 vs24 m25 =>
        bif Nat.beq 2 d26 then (headK vs24 fun a33 r34 =>
          asI .i64 a33 fun n35 =>
          headK r34 fun a36 r37 =>
          asI .i64 a36 fun n38 =>
          some (.tuple [.s (.int .i64 n35), .s (.int .i64 n38)], m25)) else (none))) else (none)) := by kernel_rfl

/-! ### overdub/overdubkeep.Copy[int] -/
noncomputable def G18 : FuncId → FunA := fun _ _ _ => none
def A18 : Ann := .two (.leaf) (.two (.leaf) (.leaf))
def R18 : Slots := [(2, .s)]
noncomputable def overdubkeep_Copy_int : FunA := denF Try.prog G18 Try.f18 A18 R18
theorem overdubkeep_Copy_int_eq (p0 : SV) (μ : AMem) : overdubkeep_Copy_int [.s p0] μ =
  appendA 3 1 8 (μ.next + 1) (μ.bump 3) (.s .nilSlice) (.s p0) fun x1 m2 =>
  asS x1 fun x3 =>
  some (.s x3, m2) := by kernel_rfl

/-! ### overdub/overdublaw02.RiceParams -/
noncomputable def G5 : FuncId → FunA := fun g => bif Nat.beq g 10 then overdubkeep_Within else bif Nat.beq g 17 then rice_Best else bif Nat.beq g 11 then rice_Size else bif Nat.beq g 18 then overdubkeep_Copy_int else bif Nat.beq g 13 then overdublaw02_wakes else fun _ _ => none
theorem G5_10 : G5 10 = overdubkeep_Within := by kernel_rfl
theorem G5_17 : G5 17 = rice_Best := by kernel_rfl
theorem G5_11 : G5 11 = rice_Size := by kernel_rfl
theorem G5_18 : G5 18 = overdubkeep_Copy_int := by kernel_rfl
theorem G5_13 : G5 13 = overdublaw02_wakes := by kernel_rfl
def A5 : Ann := .two (.leaf) (.two (.leaf) (.two (.two (.leaf) (.join [(3, .s)] [] [] (.loop [(3, .s), (4, .i .i64)] [0] [0] (.two (.join [(19, .b)] [0, 3, 4] [] (.leaf) (.two (.leaf) (.leaf))) (.two (.join [(0, .s), (3, .s), (4, .i .i64)] [] [] (.leaf) .leaf) (.leaf)))) .leaf)) (.two (.leaf) (.two (.two (.leaf) (.join [(3, .s)] [] [] (.loop [(7, .i .i64)] [3, 5, 6] [2] (.two (.two (.leaf) (.two (.leaf) (.leaf))) (.two (.join [(3, .s), (5, .i .i64), (6, .i .i64), (7, .i .i64)] [] [] (.two (.leaf) (.two (.two (.leaf) (.join [(3, .s), (5, .i .i64), (6, .i .i64), (7, .i .i64), (8, .i .i64)] [] [] (.loop [(8, .i .i64), (41, .i .i64)] [3, 5, 6, 7, 40] [4] (.two (.leaf) (.two (.two (.leaf) (.leaf)) (.two (.join [(3, .s), (5, .i .i64), (6, .i .i64), (7, .i .i64), (8, .i .i64), (40, .i .i64), (41, .i .i64)] [] [] (.two (.leaf) (.leaf)) .leaf) (.leaf))))) .leaf)) (.join [(75, .b)] [3, 5, 6, 7] [] (.leaf) (.two (.two (.leaf) (.leaf)) (.leaf))))) .leaf) (.leaf)))) .leaf)) (.two (.leaf) (.two (.leaf) (.leaf)))))))
def R5 : Slots := [(2, .b)]
noncomputable def overdublaw02_RiceParams : FunA := denF Try.prog G5 Try.f5 A5 R5
noncomputable def overdublaw02_RiceParams_L3_B (os vs : List AV) (μ : AMem) : Option Res := joinK [(8, .i .i64), (41, .i .i64)] vs (envO [3, 5, 6, 7, 40] os) fun e => den Try.prog G5 Try.f5.ntmps (cL (cL (cR (cL (cR (cL (cL (cR (cL (cL (cR (cL (cR (cR (cR (cR (bodyOf Try.f5))))))))))))))))) (aL (aL (aR (aL (aR (aL (aL (aR (aL (aL (aR (aL (aR (aR (aR (aR A5)))))))))))))))) { ret := R5, exits := [(4, [(3, .s), (5, .i .i64), (6, .i .i64), (7, .i .i64), (8, .i .i64)]), (3, [(3, .s), (5, .i .i64), (6, .i .i64), (7, .i .i64)]), (2, [(3, .s)])] } Res e μ fun ex e μ => some (ex, valsOf (Lv.at { ret := R5, exits := [(4, [(3, .s), (5, .i .i64), (6, .i .i64), (7, .i .i64), (8, .i .i64)]), (3, [(3, .s), (5, .i .i64), (6, .i .i64), (7, .i .i64)]), (2, [(3, .s)])] } [(8, .i .i64), (41, .i .i64)] ex) e, μ)
noncomputable def overdublaw02_RiceParams_L3 (os vs : List AV) (μ : AMem) : Option Res := loopA (overdublaw02_RiceParams_L3_B os) vs μ
noncomputable def overdublaw02_RiceParams_L2_B (os vs : List AV) (μ : AMem) : Option Res := joinK [(7, .i .i64)] vs (envO [3, 5, 6] os) fun e => den Try.prog G5 Try.f5.ntmps (cL (cL (cR (cL (cR (cR (cR (cR (bodyOf Try.f5))))))))) (aL (aL (aR (aL (aR (aR (aR (aR A5)))))))) { ret := R5, exits := [(2, [(3, .s)])] } Res e μ fun ex e μ => some (ex, valsOf (Lv.at { ret := R5, exits := [(2, [(3, .s)])] } [(7, .i .i64)] ex) e, μ)
noncomputable def overdublaw02_RiceParams_L2 (os vs : List AV) (μ : AMem) : Option Res := loopA (overdublaw02_RiceParams_L2_B os) vs μ
noncomputable def overdublaw02_RiceParams_L1_B (os vs : List AV) (μ : AMem) : Option Res := joinK [(3, .s), (4, .i .i64)] vs (envO [0] os) fun e => den Try.prog G5 Try.f5.ntmps (cL (cL (cR (cL (cR (cR (bodyOf Try.f5))))))) (aL (aL (aR (aL (aR (aR A5)))))) { ret := R5, exits := [(0, [(3, .s)])] } Res e μ fun ex e μ => some (ex, valsOf (Lv.at { ret := R5, exits := [(0, [(3, .s)])] } [(3, .s), (4, .i .i64)] ex) e, μ)
noncomputable def overdublaw02_RiceParams_L1 (os vs : List AV) (μ : AMem) : Option Res := loopA (overdublaw02_RiceParams_L1_B os) vs μ
theorem overdublaw02_RiceParams_L3_B_eq (s3 : SV) (s5 : Int) (s6 : Int) (s7 : Int) (s40 : Int) (s8 : Int) (s41 : Int) (μ : AMem) : overdublaw02_RiceParams_L3_B [.s s3, .s (.int .i64 s5), .s (.int .i64 s6), .s (.int .i64 s7), .s (.int .i64 s40)] [.s (.int .i64 s8), .s (.int .i64 s41)] μ =
  bif decide (s41 < s40) then
  (indS 1 (.s s3) s41 fun p99 =>
    loadAt μ p99 fun v100 =>
    asI .i64 v100 fun n101 =>
    (rice_Size [.s (.int .i64 n101), .s (.int .i64 s7)] μ).bind fun r102 =>
    asI .i64 r102.1 fun n103 =>
    some (.normal, [.s (.int .i64 (IntKind.wrap .i64 (s8 + n103))), .s (.int .i64 (IntKind.wrap .i64 (s41 + 1)))], r102.2))
  else
  (some (.exit 4, [.s s3, .s (.int .i64 s5), .s (.int .i64 s6), .s (.int .i64 s7), .s (.int .i64 s8)], μ)) := by rw [← G5_11]; kernel_rfl
theorem overdublaw02_RiceParams_L3_eq (os vs : List AV) (μ : AMem) : overdublaw02_RiceParams_L3 os vs μ = (overdublaw02_RiceParams_L3_B os vs μ).bind fun r => match r.1 with | .normal => overdublaw02_RiceParams_L3 os r.2.1 r.2.2 | _ => some r := loopA_eq _ _ _
theorem overdublaw02_RiceParams_L2_B_eq (s3 : SV) (s5 : Int) (s6 : Int) (s7 : Int) (μ : AMem) : overdublaw02_RiceParams_L2_B [.s s3, .s (.int .i64 s5), .s (.int .i64 s6)] [.s (.int .i64 s7)] μ =
  bif decide (s7 ≤ 24) then
  ((lenS (.s s3)).bind fun l62 =>
    seqJ (overdublaw02_RiceParams_L3 [.s s3, .s (.int .i64 s5), .s (.int .i64 s6), .s (.int .i64 s7), .s (.int .i64 ((l62 : Nat) : Int))] [.s (.int .i64 0), .s (.int .i64 0)] μ)
    (fun _ _ => none)
    (fun vs63 m64 =>
      headK vs63 fun a68 r69 =>
      asB a68 fun b70 =>
      some (.ret, [.s (.bool b70)], m64))
    (fun d67 vs65 m66 =>
      bif Nat.beq 4 d67 then (headK vs65 fun a71 r72 =>
        asS a71 fun x73 =>
        headK r72 fun a74 r75 =>
        asI .i64 a74 fun n76 =>
        headK r75 fun a77 r78 =>
        asI .i64 a77 fun n79 =>
        headK r78 fun a80 r81 =>
        asI .i64 a80 fun n82 =>
        headK r81 fun a83 r84 =>
        asI .i64 a83 fun n85 =>
        seqJ
        (bif !(decide (n85 < n79)) then
          (bif (n85 == n79) then
            (bif !(decide (n82 < n76)) then
              (bif (n82 == n76) then
                (some (.normal, [.s (.bool (n85 != n79))], m66))
                else
                (some (.normal, [.s (.bool false)], m66)))
              else
              (some (.normal, [.s (.bool true)], m66)))
            else
            (bif (n82 == n76) then
              (some (.normal, [.s (.bool (n85 != n79))], m66))
              else
              (some (.normal, [.s (.bool false)], m66))))
          else
          (some (.normal, [.s (.bool true)], m66)))
        (fun vs86 m87 =>
          headK vs86 fun a88 r89 =>
          asB a88 fun b90 =>
          bif b90 then
          (some (.ret, [.s (.bool false)], m87))
          else
          (some (.normal, [.s (.int .i64 (IntKind.wrap .i64 (n82 + 1)))], m87)))
        (fun vs91 m92 =>
          headK vs91 fun a96 r97 =>
          asB a96 fun b98 =>
          some (.ret, [.s (.bool b98)], m92))
        (fun d95 vs93 m94 =>
          none)) else (none)))
  else
  (some (.exit 2, [.s s3], μ)) := by kernel_rfl
theorem overdublaw02_RiceParams_L2_eq (os vs : List AV) (μ : AMem) : overdublaw02_RiceParams_L2 os vs μ = (overdublaw02_RiceParams_L2_B os vs μ).bind fun r => match r.1 with | .normal => overdublaw02_RiceParams_L2 os r.2.1 r.2.2 | _ => some r := loopA_eq _ _ _
theorem overdublaw02_RiceParams_L1_B_eq (s0 : SV) (s3 : SV) (s4 : Int) (μ : AMem) : overdublaw02_RiceParams_L1_B [.s s0] [.s s3, .s (.int .i64 s4)] μ =
  seqJ
  ((lenS (.s s0)).bind fun l40 =>
    bif decide (s4 < ((l40 : Nat) : Int)) then
    (some (.normal, [.s (.bool (decide (s4 < 40)))], μ))
    else
    (some (.normal, [.s (.bool false)], μ)))
  (fun vs41 m42 =>
    headK vs41 fun a43 r44 =>
    asB a43 fun b45 =>
    bif b45 then
    (indS 1 (.s s0) s4 fun p46 =>
      loadAt (m42.bump 9) p46 fun v47 =>
      asI .i64 v47 fun n48 =>
      (overdubkeep_Within [.s (.int .i64 n48), .s (.int .i64 67108864)] (m42.bump 9)).bind fun r49 =>
      asI .i64 r49.1 fun n50 =>
      appendA 3 1 8 (m42.next + 7) (r49.2.set (m42.next + 6) (rowObj [.int .i64 n50] 1 3 (some 1))) (.s s3) (.s (.slice (m42.next + 6) 0 0 1)) fun x51 m52 =>
      asS x51 fun x53 =>
      some (.normal, [.s x53, .s (.int .i64 (IntKind.wrap .i64 (s4 + 1)))], m52))
    else
    (some (.exit 0, [.s s3], m42)))
  (fun vs54 m55 =>
    headK vs54 fun a59 r60 =>
    asB a59 fun b61 =>
    some (.ret, [.s (.bool b61)], m55))
  (fun d58 vs56 m57 =>
    none) := by rw [← G5_10]; kernel_rfl
theorem overdublaw02_RiceParams_L1_eq (os vs : List AV) (μ : AMem) : overdublaw02_RiceParams_L1 os vs μ = (overdublaw02_RiceParams_L1_B os vs μ).bind fun r => match r.1 with | .normal => overdublaw02_RiceParams_L1 os r.2.1 r.2.2 | _ => some r := loopA_eq _ _ _
theorem overdublaw02_RiceParams_eq (p0 : SV) (μ : AMem) : overdublaw02_RiceParams [.s p0] μ =
  seqJ (overdublaw02_RiceParams_L1 [.s p0] [.s .nilSlice, .s (.int .i64 0)] μ)
  (fun _ _ => none)
  (fun vs1 m2 =>
    headK vs1 fun a6 r7 =>
    asB a6 fun b8 =>
    some (.s (.bool b8), m2))
  (fun d5 vs3 m4 =>
    bif Nat.beq 0 d5 then (headK vs3 fun a9 r10 =>
      asS a9 fun x11 =>
      (rice_Best [.s x11] m4).bind fun r12 =>
      extrK 0 r12.1 fun t13 =>
      asI .i64 t13 fun n14 =>
      extrK 1 r12.1 fun t15 =>
      asI .i64 t15 fun n16 =>
      seqJ (overdublaw02_RiceParams_L2 [.s x11, .s (.int .i64 n14), .s (.int .i64 n16)] [.s (.int .i64 0)] r12.2)
      (fun _ _ => none)
      (fun vs17 m18 =>
        headK vs17 fun a22 r23 =>
        asB a22 fun b24 =>
        some (.s (.bool b24), m18))
      (fun d21 vs19 m20 =>
        bif Nat.beq 2 d21 then (headK vs19 fun a25 r26 =>
          asS a25 fun x27 =>
          (overdubkeep_Copy_int [.s x27] (m20.bump 10)).bind fun r28 =>
          asS r28.1 fun x29 =>
          appendA 3 1 8 (m20.next + 3) (r28.2.set (m20.next + 2) (rowObj [.int .i64 (-1)] 1 3 (some 1))) (.s x29) (.s (.slice (m20.next + 2) 0 0 1)) fun x30 m31 =>
          asS x30 fun x32 =>
          (rice_Best [.s x32] m31).bind fun r33 =>
          extrK 0 r33.1 fun t34 =>
          asI .i64 t34 fun n35 =>
          extrK 1 r33.1 fun t36 =>
          asI .i64 t36 fun n37 =>
          bif (n37 == 0) then
          ((overdublaw02_wakes [] r33.2).bind fun r38 =>
            asB r38.1 fun b39 =>
            some (.s (.bool b39), r38.2))
          else
          (some (.s (.bool false), r33.2))) else (none))) else (none)) := by rw [← G5_17, ← G5_18, ← G5_13]; kernel_rfl

/-! ### overdub/overdubkeep.Cut[int] -/
noncomputable def G19 : FuncId → FunA := fun _ _ _ => none
def A19 : Ann := .two (.leaf) (.two (.leaf) (.leaf))
def R19 : Slots := [(4, .s)]
noncomputable def overdubkeep_Cut_int : FunA := denF Try.prog G19 Try.f19 A19 R19
theorem overdubkeep_Cut_int_eq (p0 : SV) (p1 : Int) (μ : AMem) : overdubkeep_Cut_int [.s p0, .s (.int .i64 p1)] μ =
  (lenS (.s p0)).bind fun l1 =>
  cutS 1 (.s p0) 0 (if p1 < ((l1 : Nat) : Int) then p1 else ((l1 : Nat) : Int)) fun x2 =>
  some (x2, μ) := by kernel_rfl

/-! ### overdub/overdubref01.may -/
noncomputable def G36 : FuncId → FunA := fun _ _ _ => none
def A36 : Ann := .two (.leaf) (.two (.leaf) (.leaf))
def R36 : Slots := [(4, .b)]
noncomputable def overdubref01_may : FunA := denF Try.prog G36 Try.f36 A36 R36
theorem overdubref01_may_eq (p0 : Int) (p1 : Int) (μ : AMem) : overdubref01_may [.s (.int .i64 p0), .s (.int .i64 p1)] μ =
  bif decide (p0 ≥ 0) then
  (bif decide (p0 < 4294967296) then
    (bif decide (p1 ≥ 0) then
      (some (.s (.bool (decide (p1 ≤ 24))), μ))
      else
      (some (.s (.bool false), μ)))
    else
    (some (.s (.bool false), μ)))
  else
  (some (.s (.bool false), μ)) := by kernel_rfl

/-! ### overdub/overdubref01.Size -/
noncomputable def G21 : FuncId → FunA := fun g => bif Nat.beq g 36 then overdubref01_may else fun _ _ => none
theorem G21_36 : G21 36 = overdubref01_may := by kernel_rfl
def A21 : Ann := .two (.leaf) (.two (.two (.leaf) (.two (.two (.leaf) (.leaf)) (.leaf))) (.two (.two (.leaf) (.two (.two (.leaf) (.leaf)) (.leaf))) (.two (.leaf) (.leaf))))
def R21 : Slots := [(4, .i .i64)]
noncomputable def overdubref01_Size : FunA := denF Try.prog G21 Try.f21 A21 R21
theorem overdubref01_Size_eq (p0 : Int) (p1 : Int) (μ : AMem) : overdubref01_Size [.s (.int .i64 p0), .s (.int .i64 p1)] μ =
  (overdubref01_may [.s (.int .i64 p0), .s (.int .i64 p1)] μ).bind fun r1 =>
  asB r1.1 fun b2 =>
  bif (!b2) then
  (some (.s (.int .i64 0), r1.2))
  else
  (if (IntKind.wrap .u64 p1) < 0 then none else
    (bif decide ((Int.fdiv p0 (2 ^ (min (Int.toNat (IntKind.wrap .u64 p1)) (IntKind.bits .i64)))) < 24) then
      (if (IntKind.wrap .u64 p1) < 0 then none else
        (some (.s (.int .i64 (IntKind.wrap .i64 ((IntKind.wrap .i64 ((Int.fdiv p0 (2 ^ (min (Int.toNat (IntKind.wrap .u64 p1)) (IntKind.bits .i64)))) + 1)) + p1))), r1.2)))
      else
      (some (.s (.int .i64 56), r1.2)))) := by rw [← G21_36]; kernel_rfl

/-! ### overdub/overdubref01.Best -/
noncomputable def G20 : FuncId → FunA := fun g => bif Nat.beq g 36 then overdubref01_may else bif Nat.beq g 21 then overdubref01_Size else fun _ _ => none
theorem G20_36 : G20 36 = overdubref01_may := by kernel_rfl
theorem G20_21 : G20 21 = overdubref01_Size := by kernel_rfl
def A20 : Ann := .two (.leaf) (.two (.two (.leaf) (.join [(0, .s)] [] [] (.loop [(12, .i .i64)] [0, 11] [0] (.two (.leaf) (.two (.two (.leaf) (.leaf)) (.two (.join [(0, .s), (11, .i .i64), (12, .i .i64)] [] [] (.two (.leaf) (.two (.leaf) (.two (.two (.leaf) (.leaf)) (.leaf)))) .leaf) (.leaf))))) .leaf)) (.two (.leaf) (.two (.two (.leaf) (.join [(5, .i .i64), (6, .i .i64)] [] [] (.loop [(5, .i .i64), (6, .i .i64), (7, .i .i64)] [0] [2] (.two (.two (.leaf) (.two (.leaf) (.leaf))) (.join [(5, .i .i64), (6, .i .i64)] [0, 7] [] (.join [(0, .s), (5, .i .i64), (6, .i .i64), (7, .i .i64)] [] [] (.two (.leaf) (.two (.two (.leaf) (.join [(0, .s), (5, .i .i64), (6, .i .i64), (7, .i .i64), (8, .i .i64)] [] [] (.loop [(8, .i .i64), (28, .i .i64)] [0, 5, 6, 7, 27] [4] (.two (.leaf) (.two (.two (.leaf) (.leaf)) (.two (.join [(0, .s), (5, .i .i64), (6, .i .i64), (7, .i .i64), (8, .i .i64), (27, .i .i64), (28, .i .i64)] [] [] (.two (.leaf) (.leaf)) .leaf) (.leaf))))) .leaf)) (.join [(46, .b)] [0, 5, 6, 7, 8] [] (.leaf) (.two (.leaf) (.leaf))))) .leaf) (.leaf)))) .leaf)) (.two (.leaf) (.leaf)))))
def R20 : Slots := [(2, .i .i64), (3, .i .i64)]
noncomputable def overdubref01_Best : FunA := denF Try.prog G20 Try.f20 A20 R20
noncomputable def overdubref01_Best_L3_B (os vs : List AV) (μ : AMem) : Option Res := joinK [(8, .i .i64), (28, .i .i64)] vs (envO [0, 5, 6, 7, 27] os) fun e => den Try.prog G20 Try.f20.ntmps (cL (cL (cR (cL (cR (cL (cL (cR (cL (cL (cR (cL (cR (cR (cR (bodyOf Try.f20)))))))))))))))) (aL (aL (aR (aL (aR (aL (aL (aR (aL (aL (aR (aL (aR (aR (aR A20))))))))))))))) { ret := R20, exits := [(4, [(0, .s), (5, .i .i64), (6, .i .i64), (7, .i .i64), (8, .i .i64)]), (3, [(0, .s), (5, .i .i64), (6, .i .i64), (7, .i .i64)]), (2, [(5, .i .i64), (6, .i .i64)])] } Res e μ fun ex e μ => some (ex, valsOf (Lv.at { ret := R20, exits := [(4, [(0, .s), (5, .i .i64), (6, .i .i64), (7, .i .i64), (8, .i .i64)]), (3, [(0, .s), (5, .i .i64), (6, .i .i64), (7, .i .i64)]), (2, [(5, .i .i64), (6, .i .i64)])] } [(8, .i .i64), (28, .i .i64)] ex) e, μ)
noncomputable def overdubref01_Best_L3 (os vs : List AV) (μ : AMem) : Option Res := loopA (overdubref01_Best_L3_B os) vs μ
noncomputable def overdubref01_Best_L2_B (os vs : List AV) (μ : AMem) : Option Res := joinK [(5, .i .i64), (6, .i .i64), (7, .i .i64)] vs (envO [0] os) fun e => den Try.prog G20 Try.f20.ntmps (cL (cL (cR (cL (cR (cR (cR (bodyOf Try.f20)))))))) (aL (aL (aR (aL (aR (aR (aR A20))))))) { ret := R20, exits := [(2, [(5, .i .i64), (6, .i .i64)])] } Res e μ fun ex e μ => some (ex, valsOf (Lv.at { ret := R20, exits := [(2, [(5, .i .i64), (6, .i .i64)])] } [(5, .i .i64), (6, .i .i64), (7, .i .i64)] ex) e, μ)
noncomputable def overdubref01_Best_L2 (os vs : List AV) (μ : AMem) : Option Res := loopA (overdubref01_Best_L2_B os) vs μ
noncomputable def overdubref01_Best_L1_B (os vs : List AV) (μ : AMem) : Option Res := joinK [(12, .i .i64)] vs (envO [0, 11] os) fun e => den Try.prog G20 Try.f20.ntmps (cL (cL (cR (cL (cR (bodyOf Try.f20)))))) (aL (aL (aR (aL (aR A20))))) { ret := R20, exits := [(0, [(0, .s)])] } Res e μ fun ex e μ => some (ex, valsOf (Lv.at { ret := R20, exits := [(0, [(0, .s)])] } [(12, .i .i64)] ex) e, μ)
noncomputable def overdubref01_Best_L1 (os vs : List AV) (μ : AMem) : Option Res := loopA (overdubref01_Best_L1_B os) vs μ
theorem overdubref01_Best_L3_B_eq (s0 : SV) (s5 : Int) (s6 : Int) (s7 : Int) (s27 : Int) (s8 : Int) (s28 : Int) (μ : AMem) : overdubref01_Best_L3_B [.s s0, .s (.int .i64 s5), .s (.int .i64 s6), .s (.int .i64 s7), .s (.int .i64 s27)] [.s (.int .i64 s8), .s (.int .i64 s28)] μ =
  bif decide (s28 < s27) then
  (indS 1 (.s s0) s28 fun p100 =>
    loadAt μ p100 fun v101 =>
    asI .i64 v101 fun n102 =>
    (overdubref01_Size [.s (.int .i64 n102), .s (.int .i64 s7)] μ).bind fun r103 =>
    asI .i64 r103.1 fun n104 =>
    some (.normal, [.s (.int .i64 (IntKind.wrap .i64 (s8 + n104))), .s (.int .i64 (IntKind.wrap .i64 (s28 + 1)))], r103.2))
  else
  (some (.exit 4, [.s s0, .s (.int .i64 s5), .s (.int .i64 s6), .s (.int .i64 s7), .s (.int .i64 s8)], μ)) := by rw [← G20_21]; kernel_rfl
theorem overdubref01_Best_L3_eq (os vs : List AV) (μ : AMem) : overdubref01_Best_L3 os vs μ = (overdubref01_Best_L3_B os vs μ).bind fun r => match r.1 with | .normal => overdubref01_Best_L3 os r.2.1 r.2.2 | _ => some r := loopA_eq _ _ _
theorem overdubref01_Best_L2_B_eq (s0 : SV) (s5 : Int) (s6 : Int) (s7 : Int) (μ : AMem) : overdubref01_Best_L2_B [.s s0] [.s (.int .i64 s5), .s (.int .i64 s6), .s (.int .i64 s7)] μ =
  bif decide (s7 ≤ 24) then
  (seqJ
    ((lenS (.s s0)).bind fun l38 =>
      seqJ (overdubref01_Best_L3 [.s s0, .s (.int .i64 s5), .s (.int .i64 s6), .s (.int .i64 s7), .s (.int .i64 ((l38 : Nat) : Int))] [.s (.int .i64 0), .s (.int .i64 0)] μ)
      (fun _ _ => none)
      (fun vs39 m40 =>
        headK vs39 fun a44 r45 =>
        asI .i64 a44 fun n46 =>
        headK r45 fun a47 r48 =>
        asI .i64 a47 fun n49 =>
        some (.ret, [.s (.int .i64 n46), .s (.int .i64 n49)], m40))
      (fun d43 vs41 m42 =>
        bif Nat.beq 4 d43 then (headK vs41 fun a50 r51 =>
          asS a50 fun x52 =>
          headK r51 fun a53 r54 =>
          asI .i64 a53 fun n55 =>
          headK r54 fun a56 r57 =>
          asI .i64 a56 fun n58 =>
          headK r57 fun a59 r60 =>
          asI .i64 a59 fun n61 =>
          headK r60 fun a62 r63 =>
          asI .i64 a62 fun n64 =>
          seqJ
          (bif !(n61 == 0) then
            (some (.normal, [.s (.bool (decide (n64 < n58)))], m42))
            else
            (some (.normal, [.s (.bool true)], m42)))
          (fun vs65 m66 =>
            headK vs65 fun a67 r68 =>
            asB a67 fun b69 =>
            bif b69 then
            (some (.normal, [.s (.int .i64 n61), .s (.int .i64 n64)], m66))
            else
            (some (.normal, [.s (.int .i64 n55), .s (.int .i64 n58)], m66)))
          (fun vs70 m71 =>
            headK vs70 fun a75 r76 =>
            asI .i64 a75 fun n77 =>
            headK r76 fun a78 r79 =>
            asI .i64 a78 fun n80 =>
            some (.ret, [.s (.int .i64 n77), .s (.int .i64 n80)], m71))
          (fun d74 vs72 m73 =>
            none)) else (none)))
    (fun vs81 m82 =>
      headK vs81 fun a83 r84 =>
      asI .i64 a83 fun n85 =>
      headK r84 fun a86 r87 =>
      asI .i64 a86 fun n88 =>
      some (.normal, [.s (.int .i64 n85), .s (.int .i64 n88), .s (.int .i64 (IntKind.wrap .i64 (s7 + 1)))], m82))
    (fun vs89 m90 =>
      headK vs89 fun a94 r95 =>
      asI .i64 a94 fun n96 =>
      headK r95 fun a97 r98 =>
      asI .i64 a97 fun n99 =>
      some (.ret, [.s (.int .i64 n96), .s (.int .i64 n99)], m90))
    (fun d93 vs91 m92 =>
      none))
  else
  (some (.exit 2, [.s (.int .i64 s5), .s (.int .i64 s6)], μ)) := by kernel_rfl
theorem overdubref01_Best_L2_eq (os vs : List AV) (μ : AMem) : overdubref01_Best_L2 os vs μ = (overdubref01_Best_L2_B os vs μ).bind fun r => match r.1 with | .normal => overdubref01_Best_L2 os r.2.1 r.2.2 | _ => some r := loopA_eq _ _ _
theorem overdubref01_Best_L1_B_eq (s0 : SV) (s11 : Int) (s12 : Int) (μ : AMem) : overdubref01_Best_L1_B [.s s0, .s (.int .i64 s11)] [.s (.int .i64 s12)] μ =
  bif decide (s12 < s11) then
  (indS 1 (.s s0) s12 fun p33 =>
    loadAt μ p33 fun v34 =>
    asI .i64 v34 fun n35 =>
    (overdubref01_may [.s (.int .i64 n35), .s (.int .i64 0)] μ).bind fun r36 =>
    asB r36.1 fun b37 =>
    bif (!b37) then
    (some (.ret, [.s (.int .i64 0), .s (.int .i64 0)], r36.2))
    else
    (some (.normal, [.s (.int .i64 (IntKind.wrap .i64 (s12 + 1)))], r36.2)))
  else
  (some (.exit 0, [.s s0], μ)) := by rw [← G20_36]; kernel_rfl
theorem overdubref01_Best_L1_eq (os vs : List AV) (μ : AMem) : overdubref01_Best_L1 os vs μ = (overdubref01_Best_L1_B os vs μ).bind fun r => match r.1 with | .normal => overdubref01_Best_L1 os r.2.1 r.2.2 | _ => some r := loopA_eq _ _ _
theorem overdubref01_Best_eq (p0 : SV) (μ : AMem) : overdubref01_Best [.s p0] μ =
  (lenS (.s p0)).bind fun l1 =>
  seqJ (overdubref01_Best_L1 [.s p0, .s (.int .i64 ((l1 : Nat) : Int))] [.s (.int .i64 0)] μ)
  (fun _ _ => none)
  (fun vs2 m3 =>
    headK vs2 fun a7 r8 =>
    asI .i64 a7 fun n9 =>
    headK r8 fun a10 r11 =>
    asI .i64 a10 fun n12 =>
    some (.tuple [.s (.int .i64 n9), .s (.int .i64 n12)], m3))
  (fun d6 vs4 m5 =>
    bif Nat.beq 0 d6 then (headK vs4 fun a13 r14 =>
      asS a13 fun x15 =>
      seqJ (overdubref01_Best_L2 [.s x15] [.s (.int .i64 0), .s (.int .i64 0), .s (.int .i64 0)] m5)
      (fun _ _ => none)
      (fun vs16 m17 =>
        headK vs16 fun a21 r22 =>
        asI .i64 a21 fun n23 =>
        headK r22 fun a24 r25 =>
        asI .i64 a24 fun n26 =>
        some (.tuple [.s (.int .i64 n23), .s (.int .i64 n26)], m17))
      (fun d20 vs18 m19 =>
        bif Nat.beq 2 d20 then (headK vs18 fun a27 r28 =>
          asI .i64 a27 fun n29 =>
          headK r28 fun a30 r31 =>
          asI .i64 a30 fun n32 =>
          some (.tuple [.s (.int .i64 n29), .s (.int .i64 n32)], m19)) else (none))) else (none)) := by kernel_rfl

/-! ### overdub/overdublaw02.RiceSizes -/
noncomputable def G6 : FuncId → FunA := fun g => bif Nat.beq g 19 then overdubkeep_Cut_int else bif Nat.beq g 17 then rice_Best else bif Nat.beq g 20 then overdubref01_Best else bif Nat.beq g 11 then rice_Size else bif Nat.beq g 21 then overdubref01_Size else bif Nat.beq g 13 then overdublaw02_wakes else fun _ _ => none
theorem G6_19 : G6 19 = overdubkeep_Cut_int := by kernel_rfl
theorem G6_17 : G6 17 = rice_Best := by kernel_rfl
theorem G6_20 : G6 20 = overdubref01_Best := by kernel_rfl
theorem G6_11 : G6 11 = rice_Size := by kernel_rfl
theorem G6_21 : G6 21 = overdubref01_Size := by kernel_rfl
theorem G6_13 : G6 13 = overdublaw02_wakes := by kernel_rfl
def A6 : Ann := .two (.leaf) (.two (.leaf) (.two (.leaf) (.two (.leaf) (.two (.leaf) (.leaf)))))
def R6 : Slots := [(6, .b)]
noncomputable def overdublaw02_RiceSizes : FunA := denF Try.prog G6 Try.f6 A6 R6
theorem overdublaw02_RiceSizes_eq (p0 : Int) (p1 : Int) (p2 : SV) (μ : AMem) : overdublaw02_RiceSizes [.s (.int .i64 p0), .s (.int .i64 p1), .s p2] μ =
  (overdubkeep_Cut_int [.s p2, .s (.int .i64 70)] μ).bind fun r1 =>
  asS r1.1 fun x2 =>
  (rice_Best [.s x2] r1.2).bind fun r3 =>
  extrK 0 r3.1 fun t4 =>
  asI .i64 t4 fun n5 =>
  extrK 1 r3.1 fun t6 =>
  asI .i64 t6 fun n7 =>
  (overdubref01_Best [.s x2] r3.2).bind fun r8 =>
  extrK 0 r8.1 fun t9 =>
  asI .i64 t9 fun n10 =>
  extrK 1 r8.1 fun t11 =>
  asI .i64 t11 fun n12 =>
  (rice_Size [.s (.int .i64 p0), .s (.int .i64 p1)] r8.2).bind fun r13 =>
  asI .i64 r13.1 fun n14 =>
  (overdubref01_Size [.s (.int .i64 p0), .s (.int .i64 p1)] r13.2).bind fun r15 =>
  asI .i64 r15.1 fun n16 =>
  bif (n14 == n16) then
  (bif (n5 == n10) then
    (bif (n7 == n12) then
      ((overdublaw02_wakes [] r15.2).bind fun r17 =>
        asB r17.1 fun b18 =>
        some (.s (.bool b18), r17.2))
      else
      (some (.s (.bool false), r15.2)))
    else
    (some (.s (.bool false), r15.2)))
  else
  (some (.s (.bool false), r15.2)) := by rw [← G6_19, ← G6_17, ← G6_20, ← G6_11, ← G6_21, ← G6_13]; kernel_rfl

/-! ### overdub/bits.NewWriter -/
noncomputable def G22 : FuncId → FunA := fun _ _ _ => none
def A22 : Ann := .two (.leaf) (.two (.leaf) (.leaf))
def R22 : Slots := [(0, .s)]
noncomputable def bits_NewWriter : FunA := denF Try.prog G22 Try.f22 A22 R22
theorem bits_NewWriter_eq  (μ : AMem) : bits_NewWriter [] μ =
  some (.s (.ptr (μ.next + 1) 0 0), ((μ.bump 3).set (μ.next + 1) (rowObj [.nilSlice, .int .i64 0] 2 59 (some 1)))) := by kernel_rfl

/-! ### (overdub/overdubref01.Bits).Ones -/
noncomputable def G37 : FuncId → FunA := fun _ _ _ => none
def A37 : Ann := .two (.leaf) (.two (.join [(13, .b)] [0, 1] [] (.leaf) (.two (.two (.leaf) (.leaf)) (.leaf))) (.two (.leaf) (.two (.two (.leaf) (.join [(6, .s)] [] [] (.loop [(6, .s), (7, .i .i64)] [1] [0] (.two (.two (.leaf) (.two (.leaf) (.leaf))) (.two (.join [(1, .i .i64), (6, .s), (7, .i .i64)] [] [] (.leaf) .leaf) (.leaf)))) .leaf)) (.two (.leaf) (.leaf)))))
def R37 : Slots := [(4, .s), (5, .b)]
noncomputable def overdubref01_Bits_Ones : FunA := denF Try.prog G37 Try.f37 A37 R37
noncomputable def overdubref01_Bits_Ones_L1_B (os vs : List AV) (μ : AMem) : Option Res := joinK [(6, .s), (7, .i .i64)] vs (envO [1] os) fun e => den Try.prog G37 Try.f37.ntmps (cL (cL (cR (cL (cR (cR (cR (bodyOf Try.f37)))))))) (aL (aL (aR (aL (aR (aR (aR A37))))))) { ret := R37, exits := [(0, [(6, .s)])] } Res e μ fun ex e μ => some (ex, valsOf (Lv.at { ret := R37, exits := [(0, [(6, .s)])] } [(6, .s), (7, .i .i64)] ex) e, μ)
noncomputable def overdubref01_Bits_Ones_L1 (os vs : List AV) (μ : AMem) : Option Res := loopA (overdubref01_Bits_Ones_L1_B os) vs μ
theorem overdubref01_Bits_Ones_L1_B_eq (s1 : Int) (s6 : SV) (s7 : Int) (μ : AMem) : overdubref01_Bits_Ones_L1_B [.s (.int .i64 s1)] [.s s6, .s (.int .i64 s7)] μ =
  bif decide (s7 < s1) then
  (appendA 5 1 1 (μ.next + 2) ((μ.bump 4).set (μ.next + 1) (rowObj [.int .u8 1] 1 5 (some 1))) (.s s6) (.s (.slice (μ.next + 1) 0 0 1)) fun x37 m38 =>
    asS x37 fun x39 =>
    some (.normal, [.s x39, .s (.int .i64 (IntKind.wrap .i64 (s7 + 1)))], m38))
  else
  (some (.exit 0, [.s s6], μ)) := by kernel_rfl
theorem overdubref01_Bits_Ones_L1_eq (os vs : List AV) (μ : AMem) : overdubref01_Bits_Ones_L1 os vs μ = (overdubref01_Bits_Ones_L1_B os vs μ).bind fun r => match r.1 with | .normal => overdubref01_Bits_Ones_L1 os r.2.1 r.2.2 | _ => some r := loopA_eq _ _ _
theorem overdubref01_Bits_Ones_eq (p0 : SV) (p1 : Int) (μ : AMem) : overdubref01_Bits_Ones [.s p0, .s (.int .i64 p1)] μ =
  seqJ
  (bif !(decide (p1 < 0)) then
    (some (.normal, [.s (.bool (decide (p1 > 1024)))], μ))
    else
    (some (.normal, [.s (.bool true)], μ)))
  (fun vs1 m2 =>
    headK vs1 fun a3 r4 =>
    asB a3 fun b5 =>
    bif b5 then
    (some (.tuple [.s p0, .s (.bool false)], m2))
    else
    (appendA 5 1 1 (m2.next + 1) (m2.bump 3) (.s .nilSlice) (.s p0) fun x6 m7 =>
      asS x6 fun x8 =>
      seqJ (overdubref01_Bits_Ones_L1 [.s (.int .i64 p1)] [.s x8, .s (.int .i64 0)] m7)
      (fun _ _ => none)
      (fun vs9 m10 =>
        headK vs9 fun a14 r15 =>
        asS a14 fun x16 =>
        headK r15 fun a17 r18 =>
        asB a17 fun b19 =>
        some (.tuple [.s x16, .s (.bool b19)], m10))
      (fun d13 vs11 m12 =>
        bif Nat.beq 0 d13 then (headK vs11 fun a20 r21 =>
          asS a20 fun x22 =>
          appendA 5 1 1 (m12.next + 2) ((m12.bump 5).set (m12.next + 1) (rowObj [.int .u8 0] 1 5 (some 1))) (.s x22) (.s (.slice (m12.next + 1) 0 0 1)) fun x23 m24 =>
          asS x23 fun x25 =>
          some (.tuple [.s x25, .s (.bool true)], m24)) else (none))))
  (fun vs26 m27 =>
    headK vs26 fun a31 r32 =>
    asS a31 fun x33 =>
    headK r32 fun a34 r35 =>
    asB a34 fun b36 =>
    some (.tuple [.s x33, .s (.bool b36)], m27))
  (fun d30 vs28 m29 =>
    none) := by kernel_rfl

/-! ### (overdub/overdubref01.Bits).Put -/
noncomputable def G38 : FuncId → FunA := fun _ _ _ => none
def A38 : Ann := .two (.leaf) (.two (.join [(15, .b)] [0, 1, 2] [] (.leaf) (.two (.two (.leaf) (.leaf)) (.leaf))) (.two (.leaf) (.two (.two (.leaf) (.join [(8, .s)] [] [] (.loop [(8, .s), (9, .i .i64)] [1] [0] (.two (.two (.leaf) (.two (.leaf) (.leaf))) (.two (.join [(1, .i .i64), (8, .s), (9, .i .i64)] [] [] (.leaf) .leaf) (.leaf)))) .leaf)) (.two (.leaf) (.leaf)))))
def R38 : Slots := [(6, .s), (7, .b)]
noncomputable def overdubref01_Bits_Put : FunA := denF Try.prog G38 Try.f38 A38 R38
noncomputable def overdubref01_Bits_Put_L1_B (os vs : List AV) (μ : AMem) : Option Res := joinK [(8, .s), (9, .i .i64)] vs (envO [1] os) fun e => den Try.prog G38 Try.f38.ntmps (cL (cL (cR (cL (cR (cR (cR (bodyOf Try.f38)))))))) (aL (aL (aR (aL (aR (aR (aR A38))))))) { ret := R38, exits := [(0, [(8, .s)])] } Res e μ fun ex e μ => some (ex, valsOf (Lv.at { ret := R38, exits := [(0, [(8, .s)])] } [(8, .s), (9, .i .i64)] ex) e, μ)
noncomputable def overdubref01_Bits_Put_L1 (os vs : List AV) (μ : AMem) : Option Res := loopA (overdubref01_Bits_Put_L1_B os) vs μ
theorem overdubref01_Bits_Put_L1_B_eq (s1 : Int) (s8 : SV) (s9 : Int) (μ : AMem) : overdubref01_Bits_Put_L1_B [.s (.int .i64 s1)] [.s s8, .s (.int .i64 s9)] μ =
  bif decide (s9 ≥ 0) then
  (if (IntKind.wrap .u64 s9) < 0 then none else
    (appendA 5 1 1 (μ.next + 8) ((μ.bump 10).set (μ.next + 7) (rowObj [.int .u8 (IntKind.wrap .u8 (IntKind.wrap .i64 (BitVec.toNat ((BitVec.ofInt (IntKind.bits .i64) (Int.fdiv s1 (2 ^ (min (Int.toNat (IntKind.wrap .u64 s9)) (IntKind.bits .i64))))) &&& (BitVec.ofInt (IntKind.bits .i64) 1)))))] 1 5 (some 1))) (.s s8) (.s (.slice (μ.next + 7) 0 0 1)) fun x34 m35 =>
      asS x34 fun x36 =>
      some (.normal, [.s x36, .s (.int .i64 (IntKind.wrap .i64 (s9 - 1)))], m35)))
  else
  (some (.exit 0, [.s s8], μ)) := by kernel_rfl
theorem overdubref01_Bits_Put_L1_eq (os vs : List AV) (μ : AMem) : overdubref01_Bits_Put_L1 os vs μ = (overdubref01_Bits_Put_L1_B os vs μ).bind fun r => match r.1 with | .normal => overdubref01_Bits_Put_L1 os r.2.1 r.2.2 | _ => some r := loopA_eq _ _ _
theorem overdubref01_Bits_Put_eq (p0 : SV) (p1 : Int) (p2 : Int) (μ : AMem) : overdubref01_Bits_Put [.s p0, .s (.int .i64 p1), .s (.int .i64 p2)] μ =
  seqJ
  (bif !(decide (p2 < 0)) then
    (some (.normal, [.s (.bool (decide (p2 > 62)))], μ))
    else
    (some (.normal, [.s (.bool true)], μ)))
  (fun vs1 m2 =>
    headK vs1 fun a3 r4 =>
    asB a3 fun b5 =>
    bif b5 then
    (some (.tuple [.s p0, .s (.bool false)], m2))
    else
    (appendA 5 1 1 (m2.next + 1) (m2.bump 3) (.s .nilSlice) (.s p0) fun x6 m7 =>
      asS x6 fun x8 =>
      seqJ (overdubref01_Bits_Put_L1 [.s (.int .i64 p1)] [.s x8, .s (.int .i64 (IntKind.wrap .i64 (p2 - 1)))] m7)
      (fun _ _ => none)
      (fun vs9 m10 =>
        headK vs9 fun a14 r15 =>
        asS a14 fun x16 =>
        headK r15 fun a17 r18 =>
        asB a17 fun b19 =>
        some (.tuple [.s x16, .s (.bool b19)], m10))
      (fun d13 vs11 m12 =>
        bif Nat.beq 0 d13 then (headK vs11 fun a20 r21 =>
          asS a20 fun x22 =>
          some (.tuple [.s x22, .s (.bool true)], m12)) else (none))))
  (fun vs23 m24 =>
    headK vs23 fun a28 r29 =>
    asS a28 fun x30 =>
    headK r29 fun a31 r32 =>
    asB a31 fun b33 =>
    some (.tuple [.s x30, .s (.bool b33)], m24))
  (fun d27 vs25 m26 =>
    none) := by kernel_rfl

/-! ### (overdub/overdubref01.Bits).Rice -/
noncomputable def G23 : FuncId → FunA := fun g => bif Nat.beq g 36 then overdubref01_may else bif Nat.beq g 37 then overdubref01_Bits_Ones else bif Nat.beq g 38 then overdubref01_Bits_Put else fun _ _ => none
theorem G23_36 : G23 36 = overdubref01_may := by kernel_rfl
theorem G23_37 : G23 37 = overdubref01_Bits_Ones := by kernel_rfl
theorem G23_38 : G23 38 = overdubref01_Bits_Put := by kernel_rfl
def A23 : Ann := .two (.leaf) (.two (.two (.leaf) (.two (.two (.leaf) (.leaf)) (.leaf))) (.two (.leaf) (.two (.two (.leaf) (.two (.two (.leaf) (.two (.leaf) (.leaf))) (.leaf))) (.two (.leaf) (.two (.leaf) (.leaf))))))
def R23 : Slots := [(6, .s), (7, .b)]
noncomputable def overdubref01_Bits_Rice : FunA := denF Try.prog G23 Try.f23 A23 R23
theorem overdubref01_Bits_Rice_eq (p0 : SV) (p1 : Int) (p2 : Int) (μ : AMem) : overdubref01_Bits_Rice [.s p0, .s (.int .i64 p1), .s (.int .i64 p2)] μ =
  (overdubref01_may [.s (.int .i64 p1), .s (.int .i64 p2)] μ).bind fun r1 =>
  asB r1.1 fun b2 =>
  bif (!b2) then
  (some (.tuple [.s p0, .s (.bool false)], r1.2))
  else
  (if (IntKind.wrap .u64 p2) < 0 then none else
    (bif decide ((Int.fdiv p1 (2 ^ (min (Int.toNat (IntKind.wrap .u64 p2)) (IntKind.bits .i64)))) < 24) then
      ((overdubref01_Bits_Ones [.s p0, .s (.int .i64 (Int.fdiv p1 (2 ^ (min (Int.toNat (IntKind.wrap .u64 p2)) (IntKind.bits .i64)))))] r1.2).bind fun r3 =>
        extrK 0 r3.1 fun t4 =>
        asS t4 fun x5 =>
        extrK 1 r3.1 fun t6 =>
        asB t6 fun b7 =>
        (overdubref01_Bits_Put [.s x5, .s (.int .i64 p1), .s (.int .i64 p2)] r3.2).bind fun r8 =>
        extrK 0 r8.1 fun t9 =>
        asS t9 fun x10 =>
        extrK 1 r8.1 fun t11 =>
        asB t11 fun b12 =>
        some (.tuple [.s x10, .s (.bool b12)], r8.2))
      else
      ((overdubref01_Bits_Put [.s p0, .s (.int .i64 16777215), .s (.int .i64 24)] r1.2).bind fun r13 =>
        extrK 0 r13.1 fun t14 =>
        asS t14 fun x15 =>
        extrK 1 r13.1 fun t16 =>
        asB t16 fun b17 =>
        (overdubref01_Bits_Put [.s x15, .s (.int .i64 p1), .s (.int .i64 32)] r13.2).bind fun r18 =>
        extrK 0 r18.1 fun t19 =>
        asS t19 fun x20 =>
        extrK 1 r18.1 fun t21 =>
        asB t21 fun b22 =>
        some (.tuple [.s x20, .s (.bool b22)], r18.2)))) := by rw [← G23_36, ← G23_37, ← G23_38]; kernel_rfl

/-! ### (*overdub/bits.Writer).put -/
noncomputable def G47 : FuncId → FunA := fun _ _ _ => none
def A47 : Ann := .join [] [0, 1] [] (.two (.leaf) (.two (.leaf) (.leaf))) (.join [] [0] [] (.two (.leaf) (.two (.ord [0, 1, 2, 3, 4, 5, 6, 7, 8, 9, 10, 11, 12, 13, 14, 15, 16, 17, 18, 19]) (.leaf))) (.leaf))
def R47 : Slots := []
noncomputable def bits_Writer_put : FunA := denF Try.prog G47 Try.f47 A47 R47
theorem bits_Writer_put_eq (p0 q0 o0 : Nat) (p1 : Bool) (μ : AMem) : bits_Writer_put [.s (.ptr p0 q0 o0), .s (.bool p1)] μ =
  seqJ
  ((μ.cell p0 q0 (o0 + 1)).bind fun x1 =>
    asI .i64 (.s x1) fun n2 =>
    bif ((Int.tmod n2 8) == 0) then
    (((μ.bump 10).cell p0 q0 (o0 + 0)).bind fun x3 =>
      appendA 5 1 1 (μ.next + 6) ((μ.bump 10).set (μ.next + 5) (rowObj [.int .u8 0] 1 5 (some 1))) (.s x3) (.s (.slice (μ.next + 5) 0 0 1)) fun x4 m5 =>
      asS x4 fun x6 =>
      (m5.store p0 q0 (o0 + 0) [x6]).bind fun m7 =>
      some (.normal, [], m7))
    else
    (some (.normal, [], μ)))
  (fun vs8 m9 =>
    seqJ
    (bif p1 then
      ((m9.cell p0 q0 (o0 + 0)).bind fun x10 =>
        (m9.cell p0 q0 (o0 + 1)).bind fun x11 =>
        asI .i64 (.s x11) fun n12 =>
        indS 1 (.s x10) (IntKind.wrap .i64 (Int.tdiv n12 8)) fun p13 =>
        loadAt m9 p13 fun v14 =>
        asI .u8 v14 fun n15 =>
        (m9.cell p0 q0 (o0 + 1)).bind fun x16 =>
        asI .i64 (.s x16) fun n17 =>
        if (Int.tmod n17 8) < 0 then none else
        (indS 1 (.s x10) (IntKind.wrap .i64 (Int.tdiv n12 8)) fun p18 =>
          storeAt 1 m9 p18 (.s (.int .u8 (IntKind.wrap .u8 (BitVec.toNat ((BitVec.ofInt (IntKind.bits .u8) n15) ||| (BitVec.ofInt (IntKind.bits .u8) (Int.fdiv 128 (2 ^ (min (Int.toNat (Int.tmod n17 8)) (IntKind.bits .u8)))))))))) fun m19 =>
          some (.normal, [], m19)))
      else
      (some (.normal, [], m9)))
    (fun vs20 m21 =>
      (m21.cell p0 q0 (o0 + 1)).bind fun x22 =>
      asI .i64 (.s x22) fun n23 =>
      (m21.store p0 q0 (o0 + 1) [.int .i64 (IntKind.wrap .i64 (n23 + 1))]).bind fun m24 =>
      some (.tuple [], m24))
    (fun vs25 m26 =>
      some (.tuple [], m26))
    (fun d29 vs27 m28 =>
      none))
  (fun vs30 m31 =>
    some (.tuple [], m31))
  (fun d34 vs32 m33 =>
    none) := by kernel_rfl

/-! ### (*overdub/bits.Writer).Ones -/
noncomputable def G39 : FuncId → FunA := fun g => bif Nat.beq g 47 then bits_Writer_put else fun _ _ => none
theorem G39_47 : G39 47 = bits_Writer_put := by kernel_rfl
def A39 : Ann := .two (.leaf) (.two (.join [(10, .b)] [0, 1] [] (.leaf) (.two (.two (.leaf) (.leaf)) (.leaf))) (.two (.two (.leaf) (.join [(0, .s)] [] [] (.loop [(12, .i .i64)] [0, 11] [0] (.two (.leaf) (.two (.two (.leaf) (.leaf)) (.two (.join [(0, .s), (11, .i .i64), (12, .i .i64)] [] [] (.leaf) .leaf) (.leaf))))) .leaf)) (.two (.leaf) (.two (.leaf) (.leaf)))))
def R39 : Slots := [(4, .b)]
noncomputable def bits_Writer_Ones : FunA := denF Try.prog G39 Try.f39 A39 R39
noncomputable def bits_Writer_Ones_L1_B (os vs : List AV) (μ : AMem) : Option Res := joinK [(12, .i .i64)] vs (envO [0, 11] os) fun e => den Try.prog G39 Try.f39.ntmps (cL (cL (cR (cL (cR (cR (bodyOf Try.f39))))))) (aL (aL (aR (aL (aR (aR A39)))))) { ret := R39, exits := [(0, [(0, .s)])] } Res e μ fun ex e μ => some (ex, valsOf (Lv.at { ret := R39, exits := [(0, [(0, .s)])] } [(12, .i .i64)] ex) e, μ)
noncomputable def bits_Writer_Ones_L1 (os vs : List AV) (μ : AMem) : Option Res := loopA (bits_Writer_Ones_L1_B os) vs μ
theorem bits_Writer_Ones_L1_B_eq (s0 t0 u0 : Nat) (s11 : Int) (s12 : Int) (μ : AMem) : bits_Writer_Ones_L1_B [.s (.ptr s0 t0 u0), .s (.int .i64 s11)] [.s (.int .i64 s12)] μ =
  bif decide (s12 < s11) then
  ((bits_Writer_put [.s (.ptr s0 t0 u0), .s (.bool true)] μ).bind fun r26 =>
    some (.normal, [.s (.int .i64 (IntKind.wrap .i64 (s12 + 1)))], r26.2))
  else
  (some (.exit 0, [.s (.ptr s0 t0 u0)], μ)) := by rw [← G39_47]; kernel_rfl
theorem bits_Writer_Ones_L1_eq (os vs : List AV) (μ : AMem) : bits_Writer_Ones_L1 os vs μ = (bits_Writer_Ones_L1_B os vs μ).bind fun r => match r.1 with | .normal => bits_Writer_Ones_L1 os r.2.1 r.2.2 | _ => some r := loopA_eq _ _ _
theorem bits_Writer_Ones_eq (p0 q0 o0 : Nat) (p1 : Int) (μ : AMem) : bits_Writer_Ones [.s (.ptr p0 q0 o0), .s (.int .i64 p1)] μ =
  seqJ
  (bif !(decide (p1 < 0)) then
    (some (.normal, [.s (.bool (decide (p1 > 1024)))], μ))
    else
    (some (.normal, [.s (.bool true)], μ)))
  (fun vs1 m2 =>
    headK vs1 fun a3 r4 =>
    asB a3 fun b5 =>
    bif b5 then
    (some (.s (.bool false), m2))
    else
    (seqJ (bits_Writer_Ones_L1 [.s (.ptr p0 q0 o0), .s (.int .i64 p1)] [.s (.int .i64 0)] m2)
      (fun _ _ => none)
      (fun vs6 m7 =>
        headK vs6 fun a11 r12 =>
        asB a11 fun b13 =>
        some (.s (.bool b13), m7))
      (fun d10 vs8 m9 =>
        bif Nat.beq 0 d10 then (headK vs8 fun a14 r15 =>
          asS a14 fun x16 =>
          (bits_Writer_put [.s x16, .s (.bool false)] m9).bind fun r17 =>
          some (.s (.bool true), r17.2)) else (none))))
  (fun vs18 m19 =>
    headK vs18 fun a23 r24 =>
    asB a23 fun b25 =>
    some (.s (.bool b25), m19))
  (fun d22 vs20 m21 =>
    none) := by rw [← G39_47]; kernel_rfl

/-! ### (*overdub/bits.Writer).Put -/
noncomputable def G40 : FuncId → FunA := fun g => bif Nat.beq g 47 then bits_Writer_put else fun _ _ => none
theorem G40_47 : G40 47 = bits_Writer_put := by kernel_rfl
def A40 : Ann := .two (.leaf) (.two (.join [(13, .b)] [0, 1, 2] [] (.leaf) (.two (.two (.leaf) (.leaf)) (.leaf))) (.two (.two (.leaf) (.join [] [] [] (.loop [(7, .i .i64)] [0, 1] [0] (.two (.two (.leaf) (.two (.leaf) (.leaf))) (.two (.join [(0, .s), (1, .i .i64), (7, .i .i64)] [] [] (.leaf) .leaf) (.leaf)))) .leaf)) (.two (.leaf) (.leaf))))
def R40 : Slots := [(6, .b)]
noncomputable def bits_Writer_Put : FunA := denF Try.prog G40 Try.f40 A40 R40
noncomputable def bits_Writer_Put_L1_B (os vs : List AV) (μ : AMem) : Option Res := joinK [(7, .i .i64)] vs (envO [0, 1] os) fun e => den Try.prog G40 Try.f40.ntmps (cL (cL (cR (cL (cR (cR (bodyOf Try.f40))))))) (aL (aL (aR (aL (aR (aR A40)))))) { ret := R40, exits := [(0, [])] } Res e μ fun ex e μ => some (ex, valsOf (Lv.at { ret := R40, exits := [(0, [])] } [(7, .i .i64)] ex) e, μ)
noncomputable def bits_Writer_Put_L1 (os vs : List AV) (μ : AMem) : Option Res := loopA (bits_Writer_Put_L1_B os) vs μ
theorem bits_Writer_Put_L1_B_eq (s0 t0 u0 : Nat) (s1 : Int) (s7 : Int) (μ : AMem) : bits_Writer_Put_L1_B [.s (.ptr s0 t0 u0), .s (.int .i64 s1)] [.s (.int .i64 s7)] μ =
  bif decide (s7 ≥ 0) then
  (if s7 < 0 then none else
    ((bits_Writer_put [.s (.ptr s0 t0 u0), .s (.bool ((IntKind.wrap .i64 (BitVec.toNat ((BitVec.ofInt (IntKind.bits .i64) (Int.fdiv s1 (2 ^ (min (Int.toNat s7) (IntKind.bits .i64))))) &&& (BitVec.ofInt (IntKind.bits .i64) 1)))) == 1))] μ).bind fun r22 =>
      some (.normal, [.s (.int .i64 (IntKind.wrap .i64 (s7 - 1)))], r22.2)))
  else
  (some (.exit 0, [], μ)) := by rw [← G40_47]; kernel_rfl
theorem bits_Writer_Put_L1_eq (os vs : List AV) (μ : AMem) : bits_Writer_Put_L1 os vs μ = (bits_Writer_Put_L1_B os vs μ).bind fun r => match r.1 with | .normal => bits_Writer_Put_L1 os r.2.1 r.2.2 | _ => some r := loopA_eq _ _ _
theorem bits_Writer_Put_eq (p0 q0 o0 : Nat) (p1 : Int) (p2 : Int) (μ : AMem) : bits_Writer_Put [.s (.ptr p0 q0 o0), .s (.int .i64 p1), .s (.int .i64 p2)] μ =
  seqJ
  (bif !(decide (p2 < 0)) then
    (some (.normal, [.s (.bool (decide (p2 > 62)))], μ))
    else
    (some (.normal, [.s (.bool true)], μ)))
  (fun vs1 m2 =>
    headK vs1 fun a3 r4 =>
    asB a3 fun b5 =>
    bif b5 then
    (some (.s (.bool false), m2))
    else
    (seqJ (bits_Writer_Put_L1 [.s (.ptr p0 q0 o0), .s (.int .i64 p1)] [.s (.int .i64 (IntKind.wrap .i64 (p2 - 1)))] m2)
      (fun _ _ => none)
      (fun vs6 m7 =>
        headK vs6 fun a11 r12 =>
        asB a11 fun b13 =>
        some (.s (.bool b13), m7))
      (fun d10 vs8 m9 =>
        bif Nat.beq 0 d10 then (some (.s (.bool true), m9)) else (none))))
  (fun vs14 m15 =>
    headK vs14 fun a19 r20 =>
    asB a19 fun b21 =>
    some (.s (.bool b21), m15))
  (fun d18 vs16 m17 =>
    none) := by kernel_rfl

/-! ### overdub/rice.Put -/
noncomputable def G24 : FuncId → FunA := fun g => bif Nat.beq g 35 then rice_may else bif Nat.beq g 39 then bits_Writer_Ones else bif Nat.beq g 40 then bits_Writer_Put else fun _ _ => none
theorem G24_35 : G24 35 = rice_may := by kernel_rfl
theorem G24_39 : G24 39 = bits_Writer_Ones := by kernel_rfl
theorem G24_40 : G24 40 = bits_Writer_Put := by kernel_rfl
def A24 : Ann := .two (.leaf) (.two (.two (.leaf) (.two (.two (.leaf) (.leaf)) (.leaf))) (.two (.leaf) (.two (.two (.leaf) (.two (.two (.leaf) (.two (.leaf) (.two (.leaf) (.leaf)))) (.leaf))) (.two (.leaf) (.two (.leaf) (.two (.leaf) (.leaf)))))))
def R24 : Slots := [(6, .b)]
noncomputable def rice_Put : FunA := denF Try.prog G24 Try.f24 A24 R24
theorem rice_Put_eq (p0 q0 o0 : Nat) (p1 : Int) (p2 : Int) (μ : AMem) : rice_Put [.s (.ptr p0 q0 o0), .s (.int .i64 p1), .s (.int .i64 p2)] μ =
  (rice_may [.s (.int .i64 p1), .s (.int .i64 p2)] μ).bind fun r1 =>
  asB r1.1 fun b2 =>
  bif (!b2) then
  (some (.s (.bool false), r1.2))
  else
  (if p2 < 0 then none else
    (bif decide ((Int.fdiv p1 (2 ^ (min (Int.toNat p2) (IntKind.bits .i64)))) < 24) then
      ((bits_Writer_Ones [.s (.ptr p0 q0 o0), .s (.int .i64 (Int.fdiv p1 (2 ^ (min (Int.toNat p2) (IntKind.bits .i64)))))] r1.2).bind fun r3 =>
        asB r3.1 fun b4 =>
        (bits_Writer_Put [.s (.ptr p0 q0 o0), .s (.int .i64 p1), .s (.int .i64 p2)] r3.2).bind fun r5 =>
        asB r5.1 fun b6 =>
        some (.s (.bool true), r5.2))
      else
      ((bits_Writer_Put [.s (.ptr p0 q0 o0), .s (.int .i64 16777215), .s (.int .i64 24)] r1.2).bind fun r7 =>
        asB r7.1 fun b8 =>
        (bits_Writer_Put [.s (.ptr p0 q0 o0), .s (.int .i64 p1), .s (.int .i64 32)] r7.2).bind fun r9 =>
        asB r9.1 fun b10 =>
        some (.s (.bool true), r9.2)))) := by rw [← G24_35, ← G24_39, ← G24_40]; kernel_rfl

/-! ### (*overdub/bits.Writer).Len -/
noncomputable def G25 : FuncId → FunA := fun _ _ _ => none
def A25 : Ann := .two (.leaf) (.two (.leaf) (.leaf))
def R25 : Slots := [(2, .i .i64)]
noncomputable def bits_Writer_Len : FunA := denF Try.prog G25 Try.f25 A25 R25
theorem bits_Writer_Len_eq (p0 q0 o0 : Nat) (μ : AMem) : bits_Writer_Len [.s (.ptr p0 q0 o0)] μ =
  (μ.cell p0 q0 (o0 + 1)).bind fun x1 =>
  asI .i64 (.s x1) fun n2 =>
  some (.s (.int .i64 n2), μ) := by kernel_rfl

/-! ### (*overdub/bits.Writer).Bytes -/
noncomputable def G27 : FuncId → FunA := fun _ _ _ => none
def A27 : Ann := .two (.leaf) (.two (.leaf) (.leaf))
def R27 : Slots := [(2, .s)]
noncomputable def bits_Writer_Bytes : FunA := denF Try.prog G27 Try.f27 A27 R27
theorem bits_Writer_Bytes_eq (p0 q0 o0 : Nat) (μ : AMem) : bits_Writer_Bytes [.s (.ptr p0 q0 o0)] μ =
  ((μ.bump 6).cell p0 q0 (o0 + 0)).bind fun x1 =>
  appendA 5 1 1 (μ.next + 4) (μ.bump 6) (.s .nilSlice) (.s x1) fun x2 m3 =>
  asS x2 fun x4 =>
  some (.s x4, m3) := by kernel_rfl

/-! ### (overdub/overdubref01.Bits).Bytes -/
noncomputable def G28 : FuncId → FunA := fun _ _ _ => none
def A28 : Ann := .two (.leaf) (.two (.leaf) (.two (.two (.leaf) (.join [(3, .s)] [] [] (.loop [(12, .i .i64)] [0, 3, 11] [0] (.two (.leaf) (.two (.two (.leaf) (.leaf)) (.two (.join [(0, .s), (3, .s), (11, .i .i64), (12, .i .i64)] [] [] (.two (.leaf) (.ord [0, 1, 2, 3, 4, 5, 6, 7, 8, 9, 10, 11, 12, 13, 14, 15, 16])) .leaf) (.leaf))))) .leaf)) (.two (.leaf) (.leaf))))
def R28 : Slots := [(2, .s)]
noncomputable def overdubref01_Bits_Bytes : FunA := denF Try.prog G28 Try.f28 A28 R28
noncomputable def overdubref01_Bits_Bytes_L1_B (os vs : List AV) (μ : AMem) : Option Res := joinK [(12, .i .i64)] vs (envO [0, 3, 11] os) fun e => den Try.prog G28 Try.f28.ntmps (cL (cL (cR (cL (cR (cR (bodyOf Try.f28))))))) (aL (aL (aR (aL (aR (aR A28)))))) { ret := R28, exits := [(0, [(3, .s)])] } Res e μ fun ex e μ => some (ex, valsOf (Lv.at { ret := R28, exits := [(0, [(3, .s)])] } [(12, .i .i64)] ex) e, μ)
noncomputable def overdubref01_Bits_Bytes_L1 (os vs : List AV) (μ : AMem) : Option Res := loopA (overdubref01_Bits_Bytes_L1_B os) vs μ
theorem overdubref01_Bits_Bytes_L1_B_eq (s0 : SV) (s3 : SV) (s11 : Int) (s12 : Int) (μ : AMem) : overdubref01_Bits_Bytes_L1_B [.s s0, .s s3, .s (.int .i64 s11)] [.s (.int .i64 s12)] μ =
  bif decide (s12 < s11) then
  (indS 1 (.s s3) (IntKind.wrap .i64 (Int.tdiv s12 8)) fun p14 =>
    loadAt μ p14 fun v15 =>
    asI .u8 v15 fun n16 =>
    indS 1 (.s s0) s12 fun p17 =>
    loadAt μ p17 fun v18 =>
    asI .u8 v18 fun n19 =>
    if (IntKind.wrap .u64 (IntKind.wrap .i64 (7 - (Int.tmod s12 8)))) < 0 then none else
    (indS 1 (.s s3) (IntKind.wrap .i64 (Int.tdiv s12 8)) fun p20 =>
      storeAt 1 μ p20 (.s (.int .u8 (IntKind.wrap .u8 (BitVec.toNat ((BitVec.ofInt (IntKind.bits .u8) n16) ||| (BitVec.ofInt (IntKind.bits .u8) (IntKind.wrap .u8 (n19 * 2 ^ (min (Int.toNat (IntKind.wrap .u64 (IntKind.wrap .i64 (7 - (Int.tmod s12 8))))) (IntKind.bits .u8)))))))))) fun m21 =>
      some (.normal, [.s (.int .i64 (IntKind.wrap .i64 (s12 + 1)))], m21)))
  else
  (some (.exit 0, [.s s3], μ)) := by kernel_rfl
theorem overdubref01_Bits_Bytes_L1_eq (os vs : List AV) (μ : AMem) : overdubref01_Bits_Bytes_L1 os vs μ = (overdubref01_Bits_Bytes_L1_B os vs μ).bind fun r => match r.1 with | .normal => overdubref01_Bits_Bytes_L1 os r.2.1 r.2.2 | _ => some r := loopA_eq _ _ _
theorem overdubref01_Bits_Bytes_eq (p0 : SV) (μ : AMem) : overdubref01_Bits_Bytes [.s p0] μ =
  (lenS (.s p0)).bind fun l1 =>
  if 0 ≤ (IntKind.wrap .i64 (Int.tdiv (IntKind.wrap .i64 (((l1 : Nat) : Int) + 7)) 8)) ∧ (IntKind.wrap .i64 (Int.tdiv (IntKind.wrap .i64 (((l1 : Nat) : Int) + 7)) 8)) ≤ (IntKind.wrap .i64 (Int.tdiv (IntKind.wrap .i64 (((l1 : Nat) : Int) + 7)) 8)) ∧ (IntKind.wrap .i64 (Int.tdiv (IntKind.wrap .i64 (((l1 : Nat) : Int) + 7)) 8)) ≤ 9223372036854775807 ∧ (1 : Nat) * (IntKind.wrap .i64 (Int.tdiv (IntKind.wrap .i64 (((l1 : Nat) : Int) + 7)) 8)) ≤ 140737488355328 then
  ((lenS (.s p0)).bind fun l2 =>
    seqJ (overdubref01_Bits_Bytes_L1 [.s p0, .s (.slice (μ.next + 4) 0 0 (Int.toNat (IntKind.wrap .i64 (Int.tdiv (IntKind.wrap .i64 (((l1 : Nat) : Int) + 7)) 8)))), .s (.int .i64 ((l2 : Nat) : Int))] [.s (.int .i64 0)] ((μ.bump 6).set (μ.next + 4) (rowObj (zerosA [.int .u8 0] (Int.toNat (IntKind.wrap .i64 (Int.tdiv (IntKind.wrap .i64 (((l1 : Nat) : Int) + 7)) 8)))) 1 5 (some (Int.toNat (IntKind.wrap .i64 (Int.tdiv (IntKind.wrap .i64 (((l1 : Nat) : Int) + 7)) 8)))))))
    (fun _ _ => none)
    (fun vs3 m4 =>
      headK vs3 fun a8 r9 =>
      asS a8 fun x10 =>
      some (.s x10, m4))
    (fun d7 vs5 m6 =>
      bif Nat.beq 0 d7 then (headK vs5 fun a11 r12 =>
        asS a11 fun x13 =>
        some (.s x13, m6)) else (none))) else none := by kernel_rfl

/-! ### overdub/overdubkeep.Same[byte] -/
noncomputable def G26 : FuncId → FunA := fun _ _ _ => none
def A26 : Ann := .two (.leaf) (.two (.two (.leaf) (.two (.two (.leaf) (.leaf)) (.leaf))) (.two (.two (.leaf) (.join [] [] [] (.loop [(5, .i .i64)] [0, 1] [0] (.two (.two (.leaf) (.two (.leaf) (.leaf))) (.two (.join [(0, .s), (1, .s), (5, .i .i64)] [] [] (.two (.ord [0, 1, 2, 3, 4, 5, 6, 7, 8]) (.two (.two (.leaf) (.leaf)) (.leaf))) .leaf) (.leaf)))) .leaf)) (.two (.leaf) (.leaf))))
def R26 : Slots := [(4, .b)]
noncomputable def overdubkeep_Same_byte : FunA := denF Try.prog G26 Try.f26 A26 R26
noncomputable def overdubkeep_Same_byte_L1_B (os vs : List AV) (μ : AMem) : Option Res := joinK [(5, .i .i64)] vs (envO [0, 1] os) fun e => den Try.prog G26 Try.f26.ntmps (cL (cL (cR (cL (cR (cR (bodyOf Try.f26))))))) (aL (aL (aR (aL (aR (aR A26)))))) { ret := R26, exits := [(0, [])] } Res e μ fun ex e μ => some (ex, valsOf (Lv.at { ret := R26, exits := [(0, [])] } [(5, .i .i64)] ex) e, μ)
noncomputable def overdubkeep_Same_byte_L1 (os vs : List AV) (μ : AMem) : Option Res := loopA (overdubkeep_Same_byte_L1_B os) vs μ
theorem overdubkeep_Same_byte_L1_B_eq (s0 : SV) (s1 : SV) (s5 : Int) (μ : AMem) : overdubkeep_Same_byte_L1_B [.s s0, .s s1] [.s (.int .i64 s5)] μ =
  (lenS (.s s0)).bind fun l11 =>
  bif decide (s5 < ((l11 : Nat) : Int)) then
  (indS 1 (.s s0) s5 fun p12 =>
    loadAt μ p12 fun v13 =>
    asI .u8 v13 fun n14 =>
    indS 1 (.s s1) s5 fun p15 =>
    loadAt μ p15 fun v16 =>
    asI .u8 v16 fun n17 =>
    bif (n14 != n17) then
    (some (.ret, [.s (.bool false)], μ))
    else
    (some (.normal, [.s (.int .i64 (IntKind.wrap .i64 (s5 + 1)))], μ)))
  else
  (some (.exit 0, [], μ)) := by kernel_rfl
theorem overdubkeep_Same_byte_L1_eq (os vs : List AV) (μ : AMem) : overdubkeep_Same_byte_L1 os vs μ = (overdubkeep_Same_byte_L1_B os vs μ).bind fun r => match r.1 with | .normal => overdubkeep_Same_byte_L1 os r.2.1 r.2.2 | _ => some r := loopA_eq _ _ _
theorem overdubkeep_Same_byte_eq (p0 : SV) (p1 : SV) (μ : AMem) : overdubkeep_Same_byte [.s p0, .s p1] μ =
  (lenS (.s p0)).bind fun l1 =>
  (lenS (.s p1)).bind fun l2 =>
  bif (((l1 : Nat) : Int) != ((l2 : Nat) : Int)) then
  (some (.s (.bool false), μ))
  else
  (seqJ (overdubkeep_Same_byte_L1 [.s p0, .s p1] [.s (.int .i64 0)] μ)
    (fun _ _ => none)
    (fun vs3 m4 =>
      headK vs3 fun a8 r9 =>
      asB a8 fun b10 =>
      some (.s (.bool b10), m4))
    (fun d7 vs5 m6 =>
      bif Nat.beq 0 d7 then (some (.s (.bool true), m6)) else (none))) := by kernel_rfl

/-! ### overdub/overdublaw02.RicePuts -/
noncomputable def G7 : FuncId → FunA := fun g => bif Nat.beq g 22 then bits_NewWriter else bif Nat.beq g 23 then overdubref01_Bits_Rice else bif Nat.beq g 24 then rice_Put else bif Nat.beq g 25 then bits_Writer_Len else bif Nat.beq g 27 then bits_Writer_Bytes else bif Nat.beq g 28 then overdubref01_Bits_Bytes else bif Nat.beq g 26 then overdubkeep_Same_byte else bif Nat.beq g 13 then overdublaw02_wakes else fun _ _ => none
theorem G7_22 : G7 22 = bits_NewWriter := by kernel_rfl
theorem G7_23 : G7 23 = overdubref01_Bits_Rice := by kernel_rfl
theorem G7_24 : G7 24 = rice_Put := by kernel_rfl
theorem G7_25 : G7 25 = bits_Writer_Len := by kernel_rfl
theorem G7_27 : G7 27 = bits_Writer_Bytes := by kernel_rfl
theorem G7_28 : G7 28 = overdubref01_Bits_Bytes := by kernel_rfl
theorem G7_26 : G7 26 = overdubkeep_Same_byte := by kernel_rfl
theorem G7_13 : G7 13 = overdublaw02_wakes := by kernel_rfl
def A7 : Ann := .two (.leaf) (.two (.leaf) (.two (.two (.leaf) (.two (.two (.leaf) (.leaf)) (.leaf))) (.two (.leaf) (.two (.two (.leaf) (.join [(5, .s), (6, .s)] [] [] (.loop [(6, .s), (7, .i .i64)] [0, 1, 5] [0] (.two (.join [(25, .b)] [0, 1, 5, 6, 7] [] (.leaf) (.two (.leaf) (.leaf))) (.two (.join [(0, .s), (1, .s), (5, .s), (6, .s), (7, .i .i64)] [] [] (.two (.leaf) (.two (.ord [0, 1, 2, 3, 4, 5, 6, 7, 8, 9, 10, 11, 12, 13, 14]) (.join [(59, .b)] [0, 1, 5, 6, 7] [] (.ord [0, 1, 2, 3, 4, 5, 6, 7, 8, 9, 10, 11, 12, 13, 14, 15, 16, 17, 18]) (.two (.two (.leaf) (.leaf)) (.leaf))))) .leaf) (.leaf)))) .leaf)) (.two (.leaf) (.leaf))))))
def R7 : Slots := [(4, .b)]
noncomputable def overdublaw02_RicePuts : FunA := denF Try.prog G7 Try.f7 A7 R7
noncomputable def overdublaw02_RicePuts_L1_B (os vs : List AV) (μ : AMem) : Option Res := joinK [(6, .s), (7, .i .i64)] vs (envO [0, 1, 5] os) fun e => den Try.prog G7 Try.f7.ntmps (cL (cL (cR (cL (cR (cR (cR (cR (bodyOf Try.f7))))))))) (aL (aL (aR (aL (aR (aR (aR (aR A7)))))))) { ret := R7, exits := [(0, [(5, .s), (6, .s)])] } Res e μ fun ex e μ => some (ex, valsOf (Lv.at { ret := R7, exits := [(0, [(5, .s), (6, .s)])] } [(6, .s), (7, .i .i64)] ex) e, μ)
noncomputable def overdublaw02_RicePuts_L1 (os vs : List AV) (μ : AMem) : Option Res := loopA (overdublaw02_RicePuts_L1_B os) vs μ
theorem overdublaw02_RicePuts_L1_B_eq (s0 : SV) (s1 : SV) (s5 : SV) (s6 : SV) (s7 : Int) (μ : AMem) : overdublaw02_RicePuts_L1_B [.s s0, .s s1, .s s5] [.s s6, .s (.int .i64 s7)] μ =
  seqJ
  ((lenS (.s s0)).bind fun l26 =>
    bif decide (s7 < ((l26 : Nat) : Int)) then
    ((lenS (.s s1)).bind fun l27 =>
      bif decide (s7 < ((l27 : Nat) : Int)) then
      (some (.normal, [.s (.bool (decide (s7 < 20)))], μ))
      else
      (some (.normal, [.s (.bool false)], μ)))
    else
    (some (.normal, [.s (.bool false)], μ)))
  (fun vs28 m29 =>
    headK vs28 fun a30 r31 =>
    asB a30 fun b32 =>
    bif b32 then
    (indS 1 (.s s0) s7 fun p33 =>
      loadAt m29 p33 fun v34 =>
      asI .i64 v34 fun n35 =>
      indS 1 (.s s1) s7 fun p36 =>
      loadAt m29 p36 fun v37 =>
      asI .i64 v37 fun n38 =>
      (overdubref01_Bits_Rice [.s s6, .s (.int .i64 n35), .s (.int .i64 n38)] m29).bind fun r39 =>
      extrK 0 r39.1 fun t40 =>
      asS t40 fun x41 =>
      extrK 1 r39.1 fun t42 =>
      asB t42 fun b43 =>
      seqJ
      (indS 1 (.s s0) s7 fun p44 =>
        loadAt r39.2 p44 fun v45 =>
        asI .i64 v45 fun n46 =>
        indS 1 (.s s1) s7 fun p47 =>
        loadAt r39.2 p47 fun v48 =>
        asI .i64 v48 fun n49 =>
        (rice_Put [.s s5, .s (.int .i64 n46), .s (.int .i64 n49)] r39.2).bind fun r50 =>
        asB r50.1 fun b51 =>
        bif !(!(b51 == b43)) then
        ((bits_Writer_Len [.s s5] r50.2).bind fun r52 =>
          asI .i64 r52.1 fun n53 =>
          (lenS (.s x41)).bind fun l54 =>
          some (.normal, [.s (.bool (n53 != ((l54 : Nat) : Int)))], r52.2))
        else
        (some (.normal, [.s (.bool true)], r50.2)))
      (fun vs55 m56 =>
        headK vs55 fun a57 r58 =>
        asB a57 fun b59 =>
        bif b59 then
        (some (.ret, [.s (.bool false)], m56))
        else
        (some (.normal, [.s x41, .s (.int .i64 (IntKind.wrap .i64 (s7 + 1)))], m56)))
      (fun vs60 m61 =>
        headK vs60 fun a65 r66 =>
        asB a65 fun b67 =>
        some (.ret, [.s (.bool b67)], m61))
      (fun d64 vs62 m63 =>
        none))
    else
    (some (.exit 0, [.s s5, .s s6], m29)))
  (fun vs68 m69 =>
    headK vs68 fun a73 r74 =>
    asB a73 fun b75 =>
    some (.ret, [.s (.bool b75)], m69))
  (fun d72 vs70 m71 =>
    none) := by rw [← G7_23, ← G7_24, ← G7_25]; kernel_rfl
theorem overdublaw02_RicePuts_L1_eq (os vs : List AV) (μ : AMem) : overdublaw02_RicePuts_L1 os vs μ = (overdublaw02_RicePuts_L1_B os vs μ).bind fun r => match r.1 with | .normal => overdublaw02_RicePuts_L1 os r.2.1 r.2.2 | _ => some r := loopA_eq _ _ _
theorem overdublaw02_RicePuts_eq (p0 : SV) (p1 : SV) (μ : AMem) : overdublaw02_RicePuts [.s p0, .s p1] μ =
  (bits_NewWriter [] μ).bind fun r1 =>
  asS r1.1 fun x2 =>
  (isNil (.s x2)).bind fun b3 =>
  bif b3 then
  (some (.s (.bool false), r1.2))
  else
  (seqJ (overdublaw02_RicePuts_L1 [.s p0, .s p1, .s x2] [.s .nilSlice, .s (.int .i64 0)] r1.2)
    (fun _ _ => none)
    (fun vs4 m5 =>
      headK vs4 fun a9 r10 =>
      asB a9 fun b11 =>
      some (.s (.bool b11), m5))
    (fun d8 vs6 m7 =>
      bif Nat.beq 0 d8 then (headK vs6 fun a12 r13 =>
        asS a12 fun x14 =>
        headK r13 fun a15 r16 =>
        asS a15 fun x17 =>
        (bits_Writer_Bytes [.s x14] m7).bind fun r18 =>
        asS r18.1 fun x19 =>
        (overdubref01_Bits_Bytes [.s x17] r18.2).bind fun r20 =>
        asS r20.1 fun x21 =>
        (overdubkeep_Same_byte [.s x19, .s x21] r20.2).bind fun r22 =>
        asB r22.1 fun b23 =>
        bif b23 then
        ((overdublaw02_wakes [] r22.2).bind fun r24 =>
          asB r24.1 fun b25 =>
          some (.s (.bool b25), r24.2))
        else
        (some (.s (.bool false), r22.2))) else (none))) := by rw [← G7_22, ← G7_27, ← G7_28, ← G7_26, ← G7_13]; kernel_rfl

/-! ### overdub/overdubkeep.Cut[byte] -/
noncomputable def G29 : FuncId → FunA := fun _ _ _ => none
def A29 : Ann := .two (.leaf) (.two (.leaf) (.leaf))
def R29 : Slots := [(4, .s)]
noncomputable def overdubkeep_Cut_byte : FunA := denF Try.prog G29 Try.f29 A29 R29
theorem overdubkeep_Cut_byte_eq (p0 : SV) (p1 : Int) (μ : AMem) : overdubkeep_Cut_byte [.s p0, .s (.int .i64 p1)] μ =
  (lenS (.s p0)).bind fun l1 =>
  cutS 1 (.s p0) 0 (if p1 < ((l1 : Nat) : Int) then p1 else ((l1 : Nat) : Int)) fun x2 =>
  some (x2, μ) := by kernel_rfl

/-! ### overdub/bits.NewReader -/
noncomputable def G30 : FuncId → FunA := fun _ _ _ => none
def A30 : Ann := .two (.leaf) (.two (.leaf) (.leaf))
def R30 : Slots := [(2, .s)]
noncomputable def bits_NewReader : FunA := denF Try.prog G30 Try.f30 A30 R30
theorem bits_NewReader_eq (p0 : SV) (μ : AMem) : bits_NewReader [.s p0] μ =
  appendA 5 1 1 (μ.next + 1) (μ.bump 5) (.s .nilSlice) (.s p0) fun x1 m2 =>
  asS x1 fun x3 =>
  some (.s (.ptr (μ.next + 3) 0 0), (m2.set (μ.next + 3) (rowObj [x3, .int .i64 0] 2 62 (some 1)))) := by kernel_rfl

/-! ### overdub/overdubref01.Of -/
noncomputable def G31 : FuncId → FunA := fun _ _ _ => none
def A31 : Ann := .two (.leaf) (.two (.leaf) (.two (.two (.leaf) (.join [(3, .s)] [] [] (.loop [(3, .s), (8, .i .i64)] [0, 7] [0] (.two (.leaf) (.two (.two (.leaf) (.leaf)) (.two (.join [(0, .s), (3, .s), (7, .i .i64), (8, .i .i64)] [] [] (.two (.leaf) (.two (.leaf) (.join [(0, .s), (3, .s), (7, .i .i64), (8, .i .i64)] [] [] (.loop [(3, .s), (5, .i .i64)] [0, 4, 7, 8] [2] (.two (.two (.leaf) (.two (.leaf) (.leaf))) (.two (.join [(0, .s), (3, .s), (4, .i .i64), (5, .i .i64), (7, .i .i64), (8, .i .i64)] [] [] (.leaf) .leaf) (.leaf)))) .leaf))) .leaf) (.leaf))))) .leaf)) (.two (.leaf) (.leaf))))
def R31 : Slots := [(2, .s)]
noncomputable def overdubref01_Of : FunA := denF Try.prog G31 Try.f31 A31 R31
noncomputable def overdubref01_Of_L2_B (os vs : List AV) (μ : AMem) : Option Res := joinK [(3, .s), (5, .i .i64)] vs (envO [0, 4, 7, 8] os) fun e => den Try.prog G31 Try.f31.ntmps (cL (cL (cR (cR (cL (cL (cR (cR (cL (cL (cR (cL (cR (cR (bodyOf Try.f31))))))))))))))) (aL (aL (aR (aR (aL (aL (aR (aR (aL (aL (aR (aL (aR (aR A31)))))))))))))) { ret := R31, exits := [(2, [(0, .s), (3, .s), (7, .i .i64), (8, .i .i64)]), (1, [(0, .s), (3, .s), (7, .i .i64), (8, .i .i64)]), (0, [(3, .s)])] } Res e μ fun ex e μ => some (ex, valsOf (Lv.at { ret := R31, exits := [(2, [(0, .s), (3, .s), (7, .i .i64), (8, .i .i64)]), (1, [(0, .s), (3, .s), (7, .i .i64), (8, .i .i64)]), (0, [(3, .s)])] } [(3, .s), (5, .i .i64)] ex) e, μ)
noncomputable def overdubref01_Of_L2 (os vs : List AV) (μ : AMem) : Option Res := loopA (overdubref01_Of_L2_B os) vs μ
noncomputable def overdubref01_Of_L1_B (os vs : List AV) (μ : AMem) : Option Res := joinK [(3, .s), (8, .i .i64)] vs (envO [0, 7] os) fun e => den Try.prog G31 Try.f31.ntmps (cL (cL (cR (cL (cR (cR (bodyOf Try.f31))))))) (aL (aL (aR (aL (aR (aR A31)))))) { ret := R31, exits := [(0, [(3, .s)])] } Res e μ fun ex e μ => some (ex, valsOf (Lv.at { ret := R31, exits := [(0, [(3, .s)])] } [(3, .s), (8, .i .i64)] ex) e, μ)
noncomputable def overdubref01_Of_L1 (os vs : List AV) (μ : AMem) : Option Res := loopA (overdubref01_Of_L1_B os) vs μ
theorem overdubref01_Of_L2_B_eq (s0 : SV) (s4 : Int) (s7 : Int) (s8 : Int) (s3 : SV) (s5 : Int) (μ : AMem) : overdubref01_Of_L2_B [.s s0, .s (.int .i64 s4), .s (.int .i64 s7), .s (.int .i64 s8)] [.s s3, .s (.int .i64 s5)] μ =
  bif decide (s5 ≥ 0) then
  (indS 1 (.s s0) s4 fun p33 =>
    loadAt (μ.bump 12) p33 fun v34 =>
    asI .u8 v34 fun n35 =>
    if (IntKind.wrap .u64 s5) < 0 then none else
    (appendA 5 1 1 (μ.next + 10) ((μ.bump 12).set (μ.next + 9) (rowObj [.int .u8 (IntKind.wrap .u8 (BitVec.toNat ((BitVec.ofInt (IntKind.bits .u8) (Int.fdiv n35 (2 ^ (min (Int.toNat (IntKind.wrap .u64 s5)) (IntKind.bits .u8))))) &&& (BitVec.ofInt (IntKind.bits .u8) 1))))] 1 5 (some 1))) (.s s3) (.s (.slice (μ.next + 9) 0 0 1)) fun x36 m37 =>
      asS x36 fun x38 =>
      some (.normal, [.s x38, .s (.int .i64 (IntKind.wrap .i64 (s5 - 1)))], m37)))
  else
  (some (.exit 2, [.s s0, .s s3, .s (.int .i64 s7), .s (.int .i64 s8)], μ)) := by kernel_rfl
theorem overdubref01_Of_L2_eq (os vs : List AV) (μ : AMem) : overdubref01_Of_L2 os vs μ = (overdubref01_Of_L2_B os vs μ).bind fun r => match r.1 with | .normal => overdubref01_Of_L2 os r.2.1 r.2.2 | _ => some r := loopA_eq _ _ _
theorem overdubref01_Of_L1_B_eq (s0 : SV) (s7 : Int) (s3 : SV) (s8 : Int) (μ : AMem) : overdubref01_Of_L1_B [.s s0, .s (.int .i64 s7)] [.s s3, .s (.int .i64 s8)] μ =
  bif decide (s8 < s7) then
  (seqJ (overdubref01_Of_L2 [.s s0, .s (.int .i64 s8), .s (.int .i64 s7), .s (.int .i64 s8)] [.s s3, .s (.int .i64 7)] μ)
    (fun _ _ => none)
    (fun vs13 m14 =>
      headK vs13 fun a18 r19 =>
      asS a18 fun x20 =>
      some (.ret, [.s x20], m14))
    (fun d17 vs15 m16 =>
      bif Nat.beq 2 d17 then (headK vs15 fun a21 r22 =>
        asS a21 fun x23 =>
        headK r22 fun a24 r25 =>
        asS a24 fun x26 =>
        headK r25 fun a27 r28 =>
        asI .i64 a27 fun n29 =>
        headK r28 fun a30 r31 =>
        asI .i64 a30 fun n32 =>
        some (.normal, [.s x26, .s (.int .i64 (IntKind.wrap .i64 (n32 + 1)))], m16)) else (none)))
  else
  (some (.exit 0, [.s s3], μ)) := by kernel_rfl
theorem overdubref01_Of_L1_eq (os vs : List AV) (μ : AMem) : overdubref01_Of_L1 os vs μ = (overdubref01_Of_L1_B os vs μ).bind fun r => match r.1 with | .normal => overdubref01_Of_L1 os r.2.1 r.2.2 | _ => some r := loopA_eq _ _ _
theorem overdubref01_Of_eq (p0 : SV) (μ : AMem) : overdubref01_Of [.s p0] μ =
  (lenS (.s p0)).bind fun l1 =>
  seqJ (overdubref01_Of_L1 [.s p0, .s (.int .i64 ((l1 : Nat) : Int))] [.s .nilSlice, .s (.int .i64 0)] μ)
  (fun _ _ => none)
  (fun vs2 m3 =>
    headK vs2 fun a7 r8 =>
    asS a7 fun x9 =>
    some (.s x9, m3))
  (fun d6 vs4 m5 =>
    bif Nat.beq 0 d6 then (headK vs4 fun a10 r11 =>
      asS a10 fun x12 =>
      some (.s x12, m5)) else (none)) := by kernel_rfl

/-! ### (*overdub/bits.Reader).Back -/
noncomputable def G41 : FuncId → FunA := fun _ _ _ => none
def A41 : Ann := .two (.leaf) (.two (.ord [0, 1, 2, 3, 4, 5, 6, 7, 8, 9, 10]) (.leaf))
def R41 : Slots := [(2, .s)]
noncomputable def bits_Reader_Back : FunA := denF Try.prog G41 Try.f41 A41 R41
theorem bits_Reader_Back_eq (p0 q0 o0 : Nat) (μ : AMem) : bits_Reader_Back [.s (.ptr p0 q0 o0)] μ =
  ((μ.bump 11).cell p0 q0 (o0 + 0)).bind fun x1 =>
  ((μ.bump 11).cell p0 q0 (o0 + 1)).bind fun x2 =>
  asI .i64 (.s x2) fun n3 =>
  checkA ((μ.bump 11).obj (μ.next + 9) = none)
  (some (.s (.ptr (μ.next + 9) 0 0), ((μ.bump 11).set (μ.next + 9) (rowObj [x1, .int .i64 n3] 2 62 (some 1))))) := by kernel_rfl

/-! ### (*overdub/bits.Reader).Left -/
noncomputable def G34 : FuncId → FunA := fun _ _ _ => none
def A34 : Ann := .two (.leaf) (.two (.ord [0, 1, 2, 3, 4, 5, 6, 7, 8, 9, 10, 11]) (.leaf))
def R34 : Slots := [(2, .i .i64)]
noncomputable def bits_Reader_Left : FunA := denF Try.prog G34 Try.f34 A34 R34
theorem bits_Reader_Left_eq (p0 q0 o0 : Nat) (μ : AMem) : bits_Reader_Left [.s (.ptr p0 q0 o0)] μ =
  (μ.cell p0 q0 (o0 + 0)).bind fun x1 =>
  (lenS (.s x1)).bind fun l2 =>
  (μ.cell p0 q0 (o0 + 1)).bind fun x3 =>
  asI .i64 (.s x3) fun n4 =>
  some (.s (.int .i64 (IntKind.wrap .i64 ((IntKind.wrap .i64 (8 * ((l2 : Nat) : Int))) - n4))), μ) := by kernel_rfl

/-! ### (*overdub/bits.Reader).digit -/
noncomputable def G48 : FuncId → FunA := fun _ _ _ => none
def A48 : Ann := .two (.leaf) (.two (.leaf) (.two (.leaf) (.leaf)))
def R48 : Slots := [(4, .i .i64)]
noncomputable def bits_Reader_digit : FunA := denF Try.prog G48 Try.f48 A48 R48
theorem bits_Reader_digit_eq (p0 q0 o0 : Nat) (p1 : Int) (μ : AMem) : bits_Reader_digit [.s (.ptr p0 q0 o0), .s (.int .i64 p1)] μ =
  (μ.cell p0 q0 (o0 + 1)).bind fun x1 =>
  asI .i64 (.s x1) fun n2 =>
  (μ.cell p0 q0 (o0 + 0)).bind fun x3 =>
  indS 1 (.s x3) (IntKind.wrap .i64 (Int.tdiv (IntKind.wrap .i64 (n2 + p1)) 8)) fun p4 =>
  loadAt μ p4 fun v5 =>
  asI .u8 v5 fun n6 =>
  if (IntKind.wrap .i64 (7 - (Int.tmod (IntKind.wrap .i64 (n2 + p1)) 8))) < 0 then none else
  (some (.s (.int .i64 (IntKind.wrap .i64 (BitVec.toNat ((BitVec.ofInt (IntKind.bits .i64) (Int.fdiv (IntKind.wrap .i64 n6) (2 ^ (min (Int.toNat (IntKind.wrap .i64 (7 - (Int.tmod (IntKind.wrap .i64 (n2 + p1)) 8)))) (IntKind.bits .i64))))) &&& (BitVec.ofInt (IntKind.bits .i64) 1))))), μ)) := by kernel_rfl

/-! ### (*overdub/bits.Reader).Ones -/
noncomputable def G42 : FuncId → FunA := fun g => bif Nat.beq g 34 then bits_Reader_Left else bif Nat.beq g 48 then bits_Reader_digit else fun _ _ => none
theorem G42_34 : G42 34 = bits_Reader_Left := by kernel_rfl
theorem G42_48 : G42 48 = bits_Reader_digit := by kernel_rfl
def A42 : Ann := .two (.leaf) (.two (.join [(13, .b)] [0, 1] [] (.leaf) (.two (.two (.leaf) (.leaf)) (.leaf))) (.two (.leaf) (.two (.two (.leaf) (.join [(0, .s), (1, .i .i64)] [] [] (.loop [(17, .i .i64)] [0, 1, 6, 16] [0] (.two (.leaf) (.two (.two (.leaf) (.leaf)) (.two (.join [(0, .s), (1, .i .i64), (6, .i .i64), (16, .i .i64), (17, .i .i64)] [] [] (.two (.leaf) (.two (.two (.leaf) (.two (.two (.leaf) (.leaf)) (.leaf))) (.two (.leaf) (.two (.two (.leaf) (.two (.leaf) (.leaf))) (.leaf))))) .leaf) (.leaf))))) .leaf)) (.two (.leaf) (.two (.leaf) (.leaf))))))
def R42 : Slots := [(4, .i .i64), (5, .b)]
noncomputable def bits_Reader_Ones : FunA := denF Try.prog G42 Try.f42 A42 R42
noncomputable def bits_Reader_Ones_L1_B (os vs : List AV) (μ : AMem) : Option Res := joinK [(17, .i .i64)] vs (envO [0, 1, 6, 16] os) fun e => den Try.prog G42 Try.f42.ntmps (cL (cL (cR (cL (cR (cR (cR (bodyOf Try.f42)))))))) (aL (aL (aR (aL (aR (aR (aR A42))))))) { ret := R42, exits := [(0, [(0, .s), (1, .i .i64)])] } Res e μ fun ex e μ => some (ex, valsOf (Lv.at { ret := R42, exits := [(0, [(0, .s), (1, .i .i64)])] } [(17, .i .i64)] ex) e, μ)
noncomputable def bits_Reader_Ones_L1 (os vs : List AV) (μ : AMem) : Option Res := loopA (bits_Reader_Ones_L1_B os) vs μ
theorem bits_Reader_Ones_L1_B_eq (s0 t0 u0 : Nat) (s1 : Int) (s6 : Int) (s16 : Int) (s17 : Int) (μ : AMem) : bits_Reader_Ones_L1_B [.s (.ptr s0 t0 u0), .s (.int .i64 s1), .s (.int .i64 s6), .s (.int .i64 s16)] [.s (.int .i64 s17)] μ =
  bif decide (s17 < s16) then
  (bif decide (s17 ≥ s6) then
    (some (.ret, [.s (.int .i64 0), .s (.bool false)], μ))
    else
    ((bits_Reader_digit [.s (.ptr s0 t0 u0), .s (.int .i64 s17)] μ).bind fun r41 =>
      asI .i64 r41.1 fun n42 =>
      bif (n42 == 0) then
      ((r41.2.cell s0 t0 (u0 + 1)).bind fun x43 =>
        asI .i64 (.s x43) fun n44 =>
        (r41.2.store s0 t0 (u0 + 1) [.int .i64 (IntKind.wrap .i64 ((IntKind.wrap .i64 (n44 + s17)) + 1))]).bind fun m45 =>
        some (.ret, [.s (.int .i64 s17), .s (.bool true)], m45))
      else
      (some (.normal, [.s (.int .i64 (IntKind.wrap .i64 (s17 + 1)))], r41.2))))
  else
  (some (.exit 0, [.s (.ptr s0 t0 u0), .s (.int .i64 s1)], μ)) := by rw [← G42_48]; kernel_rfl
theorem bits_Reader_Ones_L1_eq (os vs : List AV) (μ : AMem) : bits_Reader_Ones_L1 os vs μ = (bits_Reader_Ones_L1_B os vs μ).bind fun r => match r.1 with | .normal => bits_Reader_Ones_L1 os r.2.1 r.2.2 | _ => some r := loopA_eq _ _ _
theorem bits_Reader_Ones_eq (p0 q0 o0 : Nat) (p1 : Int) (μ : AMem) : bits_Reader_Ones [.s (.ptr p0 q0 o0), .s (.int .i64 p1)] μ =
  seqJ
  (bif !(decide (p1 < 0)) then
    (some (.normal, [.s (.bool (decide (p1 > 1024)))], μ))
    else
    (some (.normal, [.s (.bool true)], μ)))
  (fun vs1 m2 =>
    headK vs1 fun a3 r4 =>
    asB a3 fun b5 =>
    bif b5 then
    (some (.tuple [.s (.int .i64 0), .s (.bool false)], m2))
    else
    ((bits_Reader_Left [.s (.ptr p0 q0 o0)] m2).bind fun r6 =>
      asI .i64 r6.1 fun n7 =>
      seqJ (bits_Reader_Ones_L1 [.s (.ptr p0 q0 o0), .s (.int .i64 p1), .s (.int .i64 n7), .s (.int .i64 p1)] [.s (.int .i64 0)] r6.2)
      (fun _ _ => none)
      (fun vs8 m9 =>
        headK vs8 fun a13 r14 =>
        asI .i64 a13 fun n15 =>
        headK r14 fun a16 r17 =>
        asB a16 fun b18 =>
        some (.tuple [.s (.int .i64 n15), .s (.bool b18)], m9))
      (fun d12 vs10 m11 =>
        bif Nat.beq 0 d12 then (headK vs10 fun a19 r20 =>
          asS a19 fun x21 =>
          headK r20 fun a22 r23 =>
          asI .i64 a22 fun n24 =>
          nonNil (.s x21)
          (ptrAdd 1 (.s x21) fun p25 =>
            loadAt m11 p25 fun v26 =>
            asI .i64 v26 fun n27 =>
            nonNil (.s x21)
            (ptrAdd 1 (.s x21) fun p28 =>
              storeAt 1 m11 p28 (.s (.int .i64 (IntKind.wrap .i64 (n27 + n24)))) fun m29 =>
              some (.tuple [.s (.int .i64 n24), .s (.bool true)], m29)))) else (none))))
  (fun vs30 m31 =>
    headK vs30 fun a35 r36 =>
    asI .i64 a35 fun n37 =>
    headK r36 fun a38 r39 =>
    asB a38 fun b40 =>
    some (.tuple [.s (.int .i64 n37), .s (.bool b40)], m31))
  (fun d34 vs32 m33 =>
    none) := by rw [← G42_34]; kernel_rfl

/-! ### (*overdub/bits.Reader).Get -/
noncomputable def G43 : FuncId → FunA := fun g => bif Nat.beq g 34 then bits_Reader_Left else bif Nat.beq g 48 then bits_Reader_digit else fun _ _ => none
theorem G43_34 : G43 34 = bits_Reader_Left := by kernel_rfl
theorem G43_48 : G43 48 = bits_Reader_digit := by kernel_rfl
def A43 : Ann := .two (.leaf) (.two (.join [(19, .b)] [0, 1] [] (.leaf) (.two (.two (.leaf) (.leaf)) (.leaf))) (.two (.leaf) (.two (.two (.leaf) (.join [(0, .s), (1, .i .i64), (6, .i .i64)] [] [] (.loop [(6, .i .i64), (21, .i .i64)] [0, 1, 20] [0] (.two (.leaf) (.two (.two (.leaf) (.leaf)) (.two (.join [(0, .s), (1, .i .i64), (6, .i .i64), (20, .i .i64), (21, .i .i64)] [] [] (.two (.leaf) (.leaf)) .leaf) (.leaf))))) .leaf)) (.two (.leaf) (.two (.leaf) (.leaf))))))
def R43 : Slots := [(4, .i .i64), (5, .b)]
noncomputable def bits_Reader_Get : FunA := denF Try.prog G43 Try.f43 A43 R43
noncomputable def bits_Reader_Get_L1_B (os vs : List AV) (μ : AMem) : Option Res := joinK [(6, .i .i64), (21, .i .i64)] vs (envO [0, 1, 20] os) fun e => den Try.prog G43 Try.f43.ntmps (cL (cL (cR (cL (cR (cR (cR (bodyOf Try.f43)))))))) (aL (aL (aR (aL (aR (aR (aR A43))))))) { ret := R43, exits := [(0, [(0, .s), (1, .i .i64), (6, .i .i64)])] } Res e μ fun ex e μ => some (ex, valsOf (Lv.at { ret := R43, exits := [(0, [(0, .s), (1, .i .i64), (6, .i .i64)])] } [(6, .i .i64), (21, .i .i64)] ex) e, μ)
noncomputable def bits_Reader_Get_L1 (os vs : List AV) (μ : AMem) : Option Res := loopA (bits_Reader_Get_L1_B os) vs μ
theorem bits_Reader_Get_L1_B_eq (s0 t0 u0 : Nat) (s1 : Int) (s20 : Int) (s6 : Int) (s21 : Int) (μ : AMem) : bits_Reader_Get_L1_B [.s (.ptr s0 t0 u0), .s (.int .i64 s1), .s (.int .i64 s20)] [.s (.int .i64 s6), .s (.int .i64 s21)] μ =
  bif decide (s21 < s20) then
  ((bits_Reader_digit [.s (.ptr s0 t0 u0), .s (.int .i64 s21)] μ).bind fun r44 =>
    asI .i64 r44.1 fun n45 =>
    some (.normal, [.s (.int .i64 (IntKind.wrap .i64 (BitVec.toNat ((BitVec.ofInt (IntKind.bits .i64) (IntKind.wrap .i64 (s6 * 2 ^ (1 : Nat)))) ||| (BitVec.ofInt (IntKind.bits .i64) n45))))), .s (.int .i64 (IntKind.wrap .i64 (s21 + 1)))], r44.2))
  else
  (some (.exit 0, [.s (.ptr s0 t0 u0), .s (.int .i64 s1), .s (.int .i64 s6)], μ)) := by rw [← G43_48]; kernel_rfl
theorem bits_Reader_Get_L1_eq (os vs : List AV) (μ : AMem) : bits_Reader_Get_L1 os vs μ = (bits_Reader_Get_L1_B os vs μ).bind fun r => match r.1 with | .normal => bits_Reader_Get_L1 os r.2.1 r.2.2 | _ => some r := loopA_eq _ _ _
theorem bits_Reader_Get_eq (p0 q0 o0 : Nat) (p1 : Int) (μ : AMem) : bits_Reader_Get [.s (.ptr p0 q0 o0), .s (.int .i64 p1)] μ =
  seqJ
  (bif !(decide (p1 < 0)) then
    (bif !(decide (p1 > 62)) then
      ((bits_Reader_Left [.s (.ptr p0 q0 o0)] μ).bind fun r1 =>
        asI .i64 r1.1 fun n2 =>
        some (.normal, [.s (.bool (decide (p1 > n2)))], r1.2))
      else
      (some (.normal, [.s (.bool true)], μ)))
    else
    (some (.normal, [.s (.bool true)], μ)))
  (fun vs3 m4 =>
    headK vs3 fun a5 r6 =>
    asB a5 fun b7 =>
    bif b7 then
    (some (.tuple [.s (.int .i64 0), .s (.bool false)], m4))
    else
    (seqJ (bits_Reader_Get_L1 [.s (.ptr p0 q0 o0), .s (.int .i64 p1), .s (.int .i64 p1)] [.s (.int .i64 0), .s (.int .i64 0)] m4)
      (fun _ _ => none)
      (fun vs8 m9 =>
        headK vs8 fun a13 r14 =>
        asI .i64 a13 fun n15 =>
        headK r14 fun a16 r17 =>
        asB a16 fun b18 =>
        some (.tuple [.s (.int .i64 n15), .s (.bool b18)], m9))
      (fun d12 vs10 m11 =>
        bif Nat.beq 0 d12 then (headK vs10 fun a19 r20 =>
          asS a19 fun x21 =>
          headK r20 fun a22 r23 =>
          asI .i64 a22 fun n24 =>
          headK r23 fun a25 r26 =>
          asI .i64 a25 fun n27 =>
          nonNil (.s x21)
          (ptrAdd 1 (.s x21) fun p28 =>
            loadAt m11 p28 fun v29 =>
            asI .i64 v29 fun n30 =>
            nonNil (.s x21)
            (ptrAdd 1 (.s x21) fun p31 =>
              storeAt 1 m11 p31 (.s (.int .i64 (IntKind.wrap .i64 (n30 + n24)))) fun m32 =>
              some (.tuple [.s (.int .i64 n27), .s (.bool true)], m32)))) else (none))))
  (fun vs33 m34 =>
    headK vs33 fun a38 r39 =>
    asI .i64 a38 fun n40 =>
    headK r39 fun a41 r42 =>
    asB a41 fun b43 =>
    some (.tuple [.s (.int .i64 n40), .s (.bool b43)], m34))
  (fun d37 vs35 m36 =>
    none) := by rw [← G43_34]; kernel_rfl

/-! ### (*overdub/bits.Reader).To -/
noncomputable def G44 : FuncId → FunA := fun _ _ _ => none
def A44 : Ann := .ord [0, 1, 2, 3, 4, 5, 6, 7, 8, 9, 10, 11, 12, 13, 14, 15]
def R44 : Slots := []
noncomputable def bits_Reader_To : FunA := denF Try.prog G44 Try.f44 A44 R44
theorem bits_Reader_To_eq (p0 q0 o0 : Nat) (p1 q1 o1 : Nat) (μ : AMem) : bits_Reader_To [.s (.ptr p0 q0 o0), .s (.ptr p1 q1 o1)] μ =
  (μ.cell p1 q1 (o1 + 0)).bind fun x1 =>
  (μ.cell p1 q1 (o1 + 1)).bind fun x2 =>
  asI .i64 (.s x2) fun n3 =>
  (μ.store p0 q0 (o0 + 0) [x1]).bind fun m4 =>
  (m4.store p0 q0 (o0 + 1) [.int .i64 n3]).bind fun m5 =>
  some (.tuple [], m5) := by kernel_rfl

/-! ### overdub/rice.Get -/
noncomputable def G32 : FuncId → FunA := fun g => bif Nat.beq g 41 then bits_Reader_Back else bif Nat.beq g 42 then bits_Reader_Ones else bif Nat.beq g 43 then bits_Reader_Get else bif Nat.beq g 44 then bits_Reader_To else fun _ _ => none
theorem G32_41 : G32 41 = bits_Reader_Back := by kernel_rfl
theorem G32_42 : G32 42 = bits_Reader_Ones := by kernel_rfl
theorem G32_43 : G32 43 = bits_Reader_Get := by kernel_rfl
theorem G32_44 : G32 44 = bits_Reader_To := by kernel_rfl
def A32 : Ann := .two (.leaf) (.two (.join [(16, .b)] [0, 1] [] (.leaf) (.two (.two (.leaf) (.leaf)) (.leaf))) (.two (.leaf) (.two (.leaf) (.two (.two (.leaf) (.two (.two (.leaf) (.leaf)) (.leaf))) (.two (.leaf) (.join [(9, .i .i64)] [0, 1, 6, 7] [] (.two (.leaf) (.two (.leaf) (.leaf))) (.two (.leaf) (.join [(10, .i .i64)] [0, 6] [] (.join [(0, .s), (6, .s), (10, .i .i64)] [] [] (.two (.leaf) (.two (.two (.leaf) (.leaf)) (.two (.leaf) (.two (.leaf) (.two (.leaf) (.two (.two (.leaf) (.leaf)) (.leaf))))))) .leaf) (.two (.leaf) (.two (.leaf) (.leaf)))))))))))
def R32 : Slots := [(4, .i .i64), (5, .b)]
noncomputable def rice_Get : FunA := denF Try.prog G32 Try.f32 A32 R32
theorem rice_Get_eq (p0 q0 o0 : Nat) (p1 : Int) (μ : AMem) : rice_Get [.s (.ptr p0 q0 o0), .s (.int .i64 p1)] μ =
  seqJ
  (bif !(decide (p1 < 0)) then
    (some (.normal, [.s (.bool (decide (p1 > 24)))], μ))
    else
    (some (.normal, [.s (.bool true)], μ)))
  (fun vs1 m2 =>
    headK vs1 fun a3 r4 =>
    asB a3 fun b5 =>
    bif b5 then
    (some (.tuple [.s (.int .i64 0), .s (.bool false)], m2))
    else
    ((bits_Reader_Back [.s (.ptr p0 q0 o0)] m2).bind fun r6 =>
      asS r6.1 fun x7 =>
      (bits_Reader_Ones [.s x7, .s (.int .i64 24)] r6.2).bind fun r8 =>
      extrK 0 r8.1 fun t9 =>
      asI .i64 t9 fun n10 =>
      extrK 1 r8.1 fun t11 =>
      asB t11 fun b12 =>
      bif (!b12) then
      (some (.tuple [.s (.int .i64 0), .s (.bool false)], r8.2))
      else
      (seqJ
        (bif (n10 == 24) then
          (some (.normal, [.s (.int .i64 32)], r8.2))
          else
          (some (.normal, [.s (.int .i64 p1)], r8.2)))
        (fun vs13 m14 =>
          headK vs13 fun a15 r16 =>
          asI .i64 a15 fun n17 =>
          (bits_Reader_Get [.s x7, .s (.int .i64 n17)] m14).bind fun r18 =>
          extrK 0 r18.1 fun t19 =>
          asI .i64 t19 fun n20 =>
          extrK 1 r18.1 fun t21 =>
          asB t21 fun b22 =>
          seqJ
          (bif (!b22) then
            (some (.ret, [.s (.int .i64 0), .s (.bool false)], r18.2))
            else
            (bif decide (n10 < 24) then
              (if p1 < 0 then none else
                (some (.normal, [.s (.int .i64 (IntKind.wrap .i64 (BitVec.toNat ((BitVec.ofInt (IntKind.bits .i64) (IntKind.wrap .i64 (n10 * 2 ^ (min (Int.toNat p1) (IntKind.bits .i64))))) ||| (BitVec.ofInt (IntKind.bits .i64) n20)))))], r18.2)))
              else
              (if p1 < 0 then none else
                (bif decide ((Int.fdiv n20 (2 ^ (min (Int.toNat p1) (IntKind.bits .i64)))) < 24) then
                  (some (.ret, [.s (.int .i64 0), .s (.bool false)], r18.2))
                  else
                  (some (.normal, [.s (.int .i64 n20)], r18.2))))))
          (fun vs23 m24 =>
            headK vs23 fun a25 r26 =>
            asI .i64 a25 fun n27 =>
            (bits_Reader_To [.s (.ptr p0 q0 o0), .s x7] m24).bind fun r28 =>
            some (.tuple [.s (.int .i64 n27), .s (.bool true)], r28.2))
          (fun vs29 m30 =>
            headK vs29 fun a34 r35 =>
            asI .i64 a34 fun n36 =>
            headK r35 fun a37 r38 =>
            asB a37 fun b39 =>
            some (.tuple [.s (.int .i64 n36), .s (.bool b39)], m30))
          (fun d33 vs31 m32 =>
            none))
        (fun vs40 m41 =>
          headK vs40 fun a45 r46 =>
          asI .i64 a45 fun n47 =>
          headK r46 fun a48 r49 =>
          asB a48 fun b50 =>
          some (.tuple [.s (.int .i64 n47), .s (.bool b50)], m41))
        (fun d44 vs42 m43 =>
          none))))
  (fun vs51 m52 =>
    headK vs51 fun a56 r57 =>
    asI .i64 a56 fun n58 =>
    headK r57 fun a59 r60 =>
    asB a59 fun b61 =>
    some (.tuple [.s (.int .i64 n58), .s (.bool b61)], m52))
  (fun d55 vs53 m54 =>
    none) := by rw [← G32_41, ← G32_42, ← G32_43, ← G32_44]; kernel_rfl

/-! ### (overdub/overdubref01.Bits).TakeOnes -/
noncomputable def G45 : FuncId → FunA := fun _ _ _ => none
def A45 : Ann := .two (.leaf) (.two (.join [(13, .b)] [0, 1] [] (.leaf) (.two (.two (.leaf) (.leaf)) (.leaf))) (.two (.leaf) (.two (.join [(0, .s), (1, .i .i64), (7, .i .i64)] [] [] (.loop [(7, .i .i64)] [0, 1] [0] (.two (.join [(30, .b)] [0, 1, 7] [] (.leaf) (.two (.leaf) (.leaf))) (.join [(0, .s), (1, .i .i64), (7, .i .i64)] [] [] (.leaf) .leaf))) .leaf) (.two (.two (.leaf) (.two (.two (.ord [0, 1, 2, 3, 4, 5, 6]) (.leaf)) (.leaf))) (.two (.two (.leaf) (.two (.two (.leaf) (.leaf)) (.leaf))) (.two (.ord [0, 1, 2, 3, 4, 5, 6, 7]) (.leaf)))))))
def R45 : Slots := [(4, .i .i64), (5, .s), (6, .b)]
noncomputable def overdubref01_Bits_TakeOnes : FunA := denF Try.prog G45 Try.f45 A45 R45
noncomputable def overdubref01_Bits_TakeOnes_L1_B (os vs : List AV) (μ : AMem) : Option Res := joinK [(7, .i .i64)] vs (envO [0, 1] os) fun e => den Try.prog G45 Try.f45.ntmps (cL (cL (cL (cR (cR (cR (bodyOf Try.f45))))))) (aL (aL (aL (aR (aR (aR A45)))))) { ret := R45, exits := [(0, [(0, .s), (1, .i .i64), (7, .i .i64)])] } Res e μ fun ex e μ => some (ex, valsOf (Lv.at { ret := R45, exits := [(0, [(0, .s), (1, .i .i64), (7, .i .i64)])] } [(7, .i .i64)] ex) e, μ)
noncomputable def overdubref01_Bits_TakeOnes_L1 (os vs : List AV) (μ : AMem) : Option Res := loopA (overdubref01_Bits_TakeOnes_L1_B os) vs μ
theorem overdubref01_Bits_TakeOnes_L1_B_eq (s0 : SV) (s1 : Int) (s7 : Int) (μ : AMem) : overdubref01_Bits_TakeOnes_L1_B [.s s0, .s (.int .i64 s1)] [.s (.int .i64 s7)] μ =
  seqJ
  (bif decide (s7 < s1) then
    ((lenS (.s s0)).bind fun l48 =>
      bif decide (s7 < ((l48 : Nat) : Int)) then
      (indS 1 (.s s0) s7 fun p49 =>
        loadAt μ p49 fun v50 =>
        asI .u8 v50 fun n51 =>
        some (.normal, [.s (.bool (n51 == 1))], μ))
      else
      (some (.normal, [.s (.bool false)], μ)))
    else
    (some (.normal, [.s (.bool false)], μ)))
  (fun vs52 m53 =>
    headK vs52 fun a54 r55 =>
    asB a54 fun b56 =>
    bif b56 then
    (some (.normal, [.s (.int .i64 (IntKind.wrap .i64 (s7 + 1)))], m53))
    else
    (some (.exit 0, [.s s0, .s (.int .i64 s1), .s (.int .i64 s7)], m53)))
  (fun vs57 m58 =>
    headK vs57 fun a62 r63 =>
    asI .i64 a62 fun n64 =>
    headK r63 fun a65 r66 =>
    asS a65 fun x67 =>
    headK r66 fun a68 r69 =>
    asB a68 fun b70 =>
    some (.ret, [.s (.int .i64 n64), .s x67, .s (.bool b70)], m58))
  (fun d61 vs59 m60 =>
    none) := by kernel_rfl
theorem overdubref01_Bits_TakeOnes_L1_eq (os vs : List AV) (μ : AMem) : overdubref01_Bits_TakeOnes_L1 os vs μ = (overdubref01_Bits_TakeOnes_L1_B os vs μ).bind fun r => match r.1 with | .normal => overdubref01_Bits_TakeOnes_L1 os r.2.1 r.2.2 | _ => some r := loopA_eq _ _ _
theorem overdubref01_Bits_TakeOnes_eq (p0 : SV) (p1 : Int) (μ : AMem) : overdubref01_Bits_TakeOnes [.s p0, .s (.int .i64 p1)] μ =
  seqJ
  (bif !(decide (p1 < 0)) then
    (some (.normal, [.s (.bool (decide (p1 > 1024)))], μ))
    else
    (some (.normal, [.s (.bool true)], μ)))
  (fun vs1 m2 =>
    headK vs1 fun a3 r4 =>
    asB a3 fun b5 =>
    bif b5 then
    (some (.tuple [.s (.int .i64 0), .s p0, .s (.bool false)], m2))
    else
    (seqJ (overdubref01_Bits_TakeOnes_L1 [.s p0, .s (.int .i64 p1)] [.s (.int .i64 0)] m2)
      (fun _ _ => none)
      (fun vs6 m7 =>
        headK vs6 fun a11 r12 =>
        asI .i64 a11 fun n13 =>
        headK r12 fun a14 r15 =>
        asS a14 fun x16 =>
        headK r15 fun a17 r18 =>
        asB a17 fun b19 =>
        some (.tuple [.s (.int .i64 n13), .s x16, .s (.bool b19)], m7))
      (fun d10 vs8 m9 =>
        bif Nat.beq 0 d10 then (headK vs8 fun a20 r21 =>
          asS a20 fun x22 =>
          headK r21 fun a23 r24 =>
          asI .i64 a23 fun n25 =>
          headK r24 fun a26 r27 =>
          asI .i64 a26 fun n28 =>
          bif (n28 == n25) then
          ((lenS (.s x22)).bind fun l29 =>
            cutS 1 (.s x22) n28 ((l29 : Nat) : Int) fun x30 =>
            some (.tuple [.s (.int .i64 n28), x30, .s (.bool true)], m9))
          else
          ((lenS (.s x22)).bind fun l31 =>
            bif (n28 == ((l31 : Nat) : Int)) then
            (some (.tuple [.s (.int .i64 0), .s x22, .s (.bool false)], m9))
            else
            ((lenS (.s x22)).bind fun l32 =>
              cutS 1 (.s x22) (IntKind.wrap .i64 (n28 + 1)) ((l32 : Nat) : Int) fun x33 =>
              some (.tuple [.s (.int .i64 n28), x33, .s (.bool true)], m9)))) else (none))))
  (fun vs34 m35 =>
    headK vs34 fun a39 r40 =>
    asI .i64 a39 fun n41 =>
    headK r40 fun a42 r43 =>
    asS a42 fun x44 =>
    headK r43 fun a45 r46 =>
    asB a45 fun b47 =>
    some (.tuple [.s (.int .i64 n41), .s x44, .s (.bool b47)], m35))
  (fun d38 vs36 m37 =>
    none) := by kernel_rfl

/-! ### (overdub/overdubref01.Bits).Get -/
noncomputable def G46 : FuncId → FunA := fun _ _ _ => none
def A46 : Ann := .two (.leaf) (.two (.join [(20, .b)] [0, 1] [] (.leaf) (.two (.two (.leaf) (.leaf)) (.leaf))) (.two (.leaf) (.two (.two (.leaf) (.join [(0, .s), (1, .i .i64), (7, .i .i64)] [] [] (.loop [(7, .i .i64), (8, .i .i64)] [0, 1] [0] (.two (.two (.leaf) (.two (.leaf) (.leaf))) (.two (.join [(0, .s), (1, .i .i64), (7, .i .i64), (8, .i .i64)] [] [] (.leaf) .leaf) (.leaf)))) .leaf)) (.two (.ord [0, 1, 2, 3, 4, 5, 6]) (.leaf)))))
def R46 : Slots := [(4, .i .i64), (5, .s), (6, .b)]
noncomputable def overdubref01_Bits_Get : FunA := denF Try.prog G46 Try.f46 A46 R46
noncomputable def overdubref01_Bits_Get_L1_B (os vs : List AV) (μ : AMem) : Option Res := joinK [(7, .i .i64), (8, .i .i64)] vs (envO [0, 1] os) fun e => den Try.prog G46 Try.f46.ntmps (cL (cL (cR (cL (cR (cR (cR (bodyOf Try.f46)))))))) (aL (aL (aR (aL (aR (aR (aR A46))))))) { ret := R46, exits := [(0, [(0, .s), (1, .i .i64), (7, .i .i64)])] } Res e μ fun ex e μ => some (ex, valsOf (Lv.at { ret := R46, exits := [(0, [(0, .s), (1, .i .i64), (7, .i .i64)])] } [(7, .i .i64), (8, .i .i64)] ex) e, μ)
noncomputable def overdubref01_Bits_Get_L1 (os vs : List AV) (μ : AMem) : Option Res := loopA (overdubref01_Bits_Get_L1_B os) vs μ
theorem overdubref01_Bits_Get_L1_B_eq (s0 : SV) (s1 : Int) (s7 : Int) (s8 : Int) (μ : AMem) : overdubref01_Bits_Get_L1_B [.s s0, .s (.int .i64 s1)] [.s (.int .i64 s7), .s (.int .i64 s8)] μ =
  bif decide (s8 < s1) then
  (indS 1 (.s s0) s8 fun p46 =>
    loadAt μ p46 fun v47 =>
    asI .u8 v47 fun n48 =>
    some (.normal, [.s (.int .i64 (IntKind.wrap .i64 ((IntKind.wrap .i64 (2 * s7)) + (IntKind.wrap .i64 n48)))), .s (.int .i64 (IntKind.wrap .i64 (s8 + 1)))], μ))
  else
  (some (.exit 0, [.s s0, .s (.int .i64 s1), .s (.int .i64 s7)], μ)) := by kernel_rfl
theorem overdubref01_Bits_Get_L1_eq (os vs : List AV) (μ : AMem) : overdubref01_Bits_Get_L1 os vs μ = (overdubref01_Bits_Get_L1_B os vs μ).bind fun r => match r.1 with | .normal => overdubref01_Bits_Get_L1 os r.2.1 r.2.2 | _ => some r := loopA_eq _ _ _
theorem overdubref01_Bits_Get_eq (p0 : SV) (p1 : Int) (μ : AMem) : overdubref01_Bits_Get [.s p0, .s (.int .i64 p1)] μ =
  seqJ
  (bif !(decide (p1 < 0)) then
    (bif !(decide (p1 > 62)) then
      ((lenS (.s p0)).bind fun l1 =>
        some (.normal, [.s (.bool (decide (p1 > ((l1 : Nat) : Int))))], μ))
      else
      (some (.normal, [.s (.bool true)], μ)))
    else
    (some (.normal, [.s (.bool true)], μ)))
  (fun vs2 m3 =>
    headK vs2 fun a4 r5 =>
    asB a4 fun b6 =>
    bif b6 then
    (some (.tuple [.s (.int .i64 0), .s p0, .s (.bool false)], m3))
    else
    (seqJ (overdubref01_Bits_Get_L1 [.s p0, .s (.int .i64 p1)] [.s (.int .i64 0), .s (.int .i64 0)] m3)
      (fun _ _ => none)
      (fun vs7 m8 =>
        headK vs7 fun a12 r13 =>
        asI .i64 a12 fun n14 =>
        headK r13 fun a15 r16 =>
        asS a15 fun x17 =>
        headK r16 fun a18 r19 =>
        asB a18 fun b20 =>
        some (.tuple [.s (.int .i64 n14), .s x17, .s (.bool b20)], m8))
      (fun d11 vs9 m10 =>
        bif Nat.beq 0 d11 then (headK vs9 fun a21 r22 =>
          asS a21 fun x23 =>
          headK r22 fun a24 r25 =>
          asI .i64 a24 fun n26 =>
          headK r25 fun a27 r28 =>
          asI .i64 a27 fun n29 =>
          (lenS (.s x23)).bind fun l30 =>
          cutS 1 (.s x23) n26 ((l30 : Nat) : Int) fun x31 =>
          some (.tuple [.s (.int .i64 n29), x31, .s (.bool true)], m10)) else (none))))
  (fun vs32 m33 =>
    headK vs32 fun a37 r38 =>
    asI .i64 a37 fun n39 =>
    headK r38 fun a40 r41 =>
    asS a40 fun x42 =>
    headK r41 fun a43 r44 =>
    asB a43 fun b45 =>
    some (.tuple [.s (.int .i64 n39), .s x42, .s (.bool b45)], m33))
  (fun d36 vs34 m35 =>
    none) := by kernel_rfl

/-! ### (overdub/overdubref01.Bits).TakeRice -/
noncomputable def G33 : FuncId → FunA := fun g => bif Nat.beq g 36 then overdubref01_may else bif Nat.beq g 45 then overdubref01_Bits_TakeOnes else bif Nat.beq g 46 then overdubref01_Bits_Get else fun _ _ => none
theorem G33_36 : G33 36 = overdubref01_may := by kernel_rfl
theorem G33_45 : G33 45 = overdubref01_Bits_TakeOnes := by kernel_rfl
theorem G33_46 : G33 46 = overdubref01_Bits_Get := by kernel_rfl
def A33 : Ann := .two (.leaf) (.two (.two (.leaf) (.two (.two (.leaf) (.leaf)) (.leaf))) (.two (.leaf) (.two (.two (.leaf) (.two (.two (.leaf) (.leaf)) (.leaf))) (.two (.two (.leaf) (.two (.two (.leaf) (.two (.two (.leaf) (.two (.two (.leaf) (.leaf)) (.leaf))) (.two (.leaf) (.leaf)))) (.leaf))) (.two (.leaf) (.two (.join [(60, .b)] [0, 8, 13] [] (.leaf) (.two (.two (.leaf) (.leaf)) (.leaf))) (.two (.leaf) (.leaf))))))))
def R33 : Slots := [(4, .i .i64), (5, .s), (6, .b)]
noncomputable def overdubref01_Bits_TakeRice : FunA := denF Try.prog G33 Try.f33 A33 R33
theorem overdubref01_Bits_TakeRice_eq (p0 : SV) (p1 : Int) (μ : AMem) : overdubref01_Bits_TakeRice [.s p0, .s (.int .i64 p1)] μ =
  (overdubref01_may [.s (.int .i64 0), .s (.int .i64 p1)] μ).bind fun r1 =>
  asB r1.1 fun b2 =>
  bif (!b2) then
  (some (.tuple [.s (.int .i64 0), .s p0, .s (.bool false)], r1.2))
  else
  ((overdubref01_Bits_TakeOnes [.s p0, .s (.int .i64 24)] r1.2).bind fun r3 =>
    extrK 0 r3.1 fun t4 =>
    asI .i64 t4 fun n5 =>
    extrK 1 r3.1 fun t6 =>
    asS t6 fun x7 =>
    extrK 2 r3.1 fun t8 =>
    asB t8 fun b9 =>
    bif (!b9) then
    (some (.tuple [.s (.int .i64 0), .s p0, .s (.bool false)], r3.2))
    else
    (bif decide (n5 < 24) then
      ((overdubref01_Bits_Get [.s x7, .s (.int .i64 p1)] r3.2).bind fun r10 =>
        extrK 0 r10.1 fun t11 =>
        asI .i64 t11 fun n12 =>
        extrK 1 r10.1 fun t13 =>
        asS t13 fun x14 =>
        extrK 2 r10.1 fun t15 =>
        asB t15 fun b16 =>
        bif (!b16) then
        (some (.tuple [.s (.int .i64 0), .s p0, .s (.bool false)], r10.2))
        else
        (if (IntKind.wrap .u64 p1) < 0 then none else
          (some (.tuple [.s (.int .i64 (IntKind.wrap .i64 ((IntKind.wrap .i64 (n5 * 2 ^ (min (Int.toNat (IntKind.wrap .u64 p1)) (IntKind.bits .i64)))) + n12))), .s x14, .s (.bool true)], r10.2))))
      else
      ((overdubref01_Bits_Get [.s x7, .s (.int .i64 32)] r3.2).bind fun r17 =>
        extrK 0 r17.1 fun t18 =>
        asI .i64 t18 fun n19 =>
        extrK 1 r17.1 fun t20 =>
        asS t20 fun x21 =>
        extrK 2 r17.1 fun t22 =>
        asB t22 fun b23 =>
        seqJ
        (bif !(!b23) then
          (if (IntKind.wrap .u64 p1) < 0 then none else
            (some (.normal, [.s (.bool (decide ((Int.fdiv n19 (2 ^ (min (Int.toNat (IntKind.wrap .u64 p1)) (IntKind.bits .i64)))) < 24)))], r17.2)))
          else
          (some (.normal, [.s (.bool true)], r17.2)))
        (fun vs24 m25 =>
          headK vs24 fun a26 r27 =>
          asB a26 fun b28 =>
          bif b28 then
          (some (.tuple [.s (.int .i64 0), .s p0, .s (.bool false)], m25))
          else
          (some (.tuple [.s (.int .i64 n19), .s x21, .s (.bool true)], m25)))
        (fun vs29 m30 =>
          headK vs29 fun a34 r35 =>
          asI .i64 a34 fun n36 =>
          headK r35 fun a37 r38 =>
          asS a37 fun x39 =>
          headK r38 fun a40 r41 =>
          asB a40 fun b42 =>
          some (.tuple [.s (.int .i64 n36), .s x39, .s (.bool b42)], m30))
        (fun d33 vs31 m32 =>
          none)))) := by rw [← G33_36, ← G33_45, ← G33_46]; kernel_rfl

/-! ### overdub/overdublaw02.RiceGets -/
noncomputable def G8 : FuncId → FunA := fun g => bif Nat.beq g 29 then overdubkeep_Cut_byte else bif Nat.beq g 30 then bits_NewReader else bif Nat.beq g 31 then overdubref01_Of else bif Nat.beq g 32 then rice_Get else bif Nat.beq g 33 then overdubref01_Bits_TakeRice else bif Nat.beq g 34 then bits_Reader_Left else bif Nat.beq g 13 then overdublaw02_wakes else fun _ _ => none
theorem G8_29 : G8 29 = overdubkeep_Cut_byte := by kernel_rfl
theorem G8_30 : G8 30 = bits_NewReader := by kernel_rfl
theorem G8_31 : G8 31 = overdubref01_Of := by kernel_rfl
theorem G8_32 : G8 32 = rice_Get := by kernel_rfl
theorem G8_33 : G8 33 = overdubref01_Bits_TakeRice := by kernel_rfl
theorem G8_34 : G8 34 = bits_Reader_Left := by kernel_rfl
theorem G8_13 : G8 13 = overdublaw02_wakes := by kernel_rfl
def A8 : Ann := .two (.leaf) (.two (.leaf) (.two (.leaf) (.two (.two (.leaf) (.two (.two (.leaf) (.leaf)) (.leaf))) (.two (.leaf) (.two (.two (.leaf) (.join [] [] [] (.loop [(6, .s), (7, .i .i64)] [1, 5] [0] (.two (.join [(28, .b)] [1, 5, 6, 7] [] (.leaf) (.two (.leaf) (.leaf))) (.two (.join [(1, .s), (5, .s), (6, .s), (7, .i .i64)] [] [] (.two (.leaf) (.two (.leaf) (.join [(6, .s)] [1, 5, 7, 8, 9, 10, 12] [] (.two (.leaf) (.two (.leaf) (.leaf))) (.join [(66, .b)] [1, 5, 6, 7] [] (.leaf) (.two (.two (.leaf) (.leaf)) (.leaf)))))) .leaf) (.leaf)))) .leaf)) (.two (.leaf) (.leaf)))))))
def R8 : Slots := [(4, .b)]
noncomputable def overdublaw02_RiceGets : FunA := denF Try.prog G8 Try.f8 A8 R8
noncomputable def overdublaw02_RiceGets_L1_B (os vs : List AV) (μ : AMem) : Option Res := joinK [(6, .s), (7, .i .i64)] vs (envO [1, 5] os) fun e => den Try.prog G8 Try.f8.ntmps (cL (cL (cR (cL (cR (cR (cR (cR (cR (bodyOf Try.f8)))))))))) (aL (aL (aR (aL (aR (aR (aR (aR (aR A8))))))))) { ret := R8, exits := [(0, [])] } Res e μ fun ex e μ => some (ex, valsOf (Lv.at { ret := R8, exits := [(0, [])] } [(6, .s), (7, .i .i64)] ex) e, μ)
noncomputable def overdublaw02_RiceGets_L1 (os vs : List AV) (μ : AMem) : Option Res := loopA (overdublaw02_RiceGets_L1_B os) vs μ
theorem overdublaw02_RiceGets_L1_B_eq (s1 : SV) (s5 : SV) (s6 : SV) (s7 : Int) (μ : AMem) : overdublaw02_RiceGets_L1_B [.s s1, .s s5] [.s s6, .s (.int .i64 s7)] μ =
  seqJ
  ((lenS (.s s1)).bind fun l18 =>
    bif decide (s7 < ((l18 : Nat) : Int)) then
    (some (.normal, [.s (.bool (decide (s7 < 20)))], μ))
    else
    (some (.normal, [.s (.bool false)], μ)))
  (fun vs19 m20 =>
    headK vs19 fun a21 r22 =>
    asB a21 fun b23 =>
    bif b23 then
    (indS 1 (.s s1) s7 fun p24 =>
      loadAt m20 p24 fun v25 =>
      asI .i64 v25 fun n26 =>
      (rice_Get [.s s5, .s (.int .i64 n26)] m20).bind fun r27 =>
      extrK 0 r27.1 fun t28 =>
      asI .i64 t28 fun n29 =>
      extrK 1 r27.1 fun t30 =>
      asB t30 fun b31 =>
      indS 1 (.s s1) s7 fun p32 =>
      loadAt r27.2 p32 fun v33 =>
      asI .i64 v33 fun n34 =>
      (overdubref01_Bits_TakeRice [.s s6, .s (.int .i64 n34)] r27.2).bind fun r35 =>
      extrK 0 r35.1 fun t36 =>
      asI .i64 t36 fun n37 =>
      extrK 1 r35.1 fun t38 =>
      asS t38 fun x39 =>
      extrK 2 r35.1 fun t40 =>
      asB t40 fun b41 =>
      seqJ
      (bif b41 then
        (some (.normal, [.s x39], r35.2))
        else
        (some (.normal, [.s s6], r35.2)))
      (fun vs42 m43 =>
        headK vs42 fun a44 r45 =>
        asS a44 fun x46 =>
        seqJ
        (bif !(n29 != n37) then
          (bif !(!(b31 == b41)) then
            ((bits_Reader_Left [.s s5] m43).bind fun r47 =>
              asI .i64 r47.1 fun n48 =>
              (lenS (.s x46)).bind fun l49 =>
              some (.normal, [.s (.bool (n48 != ((l49 : Nat) : Int)))], r47.2))
            else
            (some (.normal, [.s (.bool true)], m43)))
          else
          (some (.normal, [.s (.bool true)], m43)))
        (fun vs50 m51 =>
          headK vs50 fun a52 r53 =>
          asB a52 fun b54 =>
          bif b54 then
          (some (.ret, [.s (.bool false)], m51))
          else
          (some (.normal, [.s x46, .s (.int .i64 (IntKind.wrap .i64 (s7 + 1)))], m51)))
        (fun vs55 m56 =>
          headK vs55 fun a60 r61 =>
          asB a60 fun b62 =>
          some (.ret, [.s (.bool b62)], m56))
        (fun d59 vs57 m58 =>
          none))
      (fun vs63 m64 =>
        headK vs63 fun a68 r69 =>
        asB a68 fun b70 =>
        some (.ret, [.s (.bool b70)], m64))
      (fun d67 vs65 m66 =>
        none))
    else
    (some (.exit 0, [], m20)))
  (fun vs71 m72 =>
    headK vs71 fun a76 r77 =>
    asB a76 fun b78 =>
    some (.ret, [.s (.bool b78)], m72))
  (fun d75 vs73 m74 =>
    none) := by rw [← G8_32, ← G8_33, ← G8_34]; kernel_rfl
theorem overdublaw02_RiceGets_L1_eq (os vs : List AV) (μ : AMem) : overdublaw02_RiceGets_L1 os vs μ = (overdublaw02_RiceGets_L1_B os vs μ).bind fun r => match r.1 with | .normal => overdublaw02_RiceGets_L1 os r.2.1 r.2.2 | _ => some r := loopA_eq _ _ _
theorem overdublaw02_RiceGets_eq (p0 : SV) (p1 : SV) (μ : AMem) : overdublaw02_RiceGets [.s p0, .s p1] μ =
  (overdubkeep_Cut_byte [.s p0, .s (.int .i64 60)] μ).bind fun r1 =>
  asS r1.1 fun x2 =>
  (bits_NewReader [.s x2] r1.2).bind fun r3 =>
  asS r3.1 fun x4 =>
  (isNil (.s x4)).bind fun b5 =>
  bif b5 then
  (some (.s (.bool false), r3.2))
  else
  ((overdubref01_Of [.s x2] r3.2).bind fun r6 =>
    asS r6.1 fun x7 =>
    seqJ (overdublaw02_RiceGets_L1 [.s p1, .s x4] [.s x7, .s (.int .i64 0)] r6.2)
    (fun _ _ => none)
    (fun vs8 m9 =>
      headK vs8 fun a13 r14 =>
      asB a13 fun b15 =>
      some (.s (.bool b15), m9))
    (fun d12 vs10 m11 =>
      bif Nat.beq 0 d12 then ((overdublaw02_wakes [] m11).bind fun r16 =>
        asB r16.1 fun b17 =>
        some (.s (.bool b17), r16.2)) else (none))) := by rw [← G8_29, ← G8_30, ← G8_31, ← G8_13]; kernel_rfl

/-! ### overdub/overdublaw02.RiceBack -/
noncomputable def G9 : FuncId → FunA := fun g => bif Nat.beq g 10 then overdubkeep_Within else bif Nat.beq g 22 then bits_NewWriter else bif Nat.beq g 24 then rice_Put else bif Nat.beq g 11 then rice_Size else bif Nat.beq g 25 then bits_Writer_Len else bif Nat.beq g 27 then bits_Writer_Bytes else bif Nat.beq g 30 then bits_NewReader else bif Nat.beq g 32 then rice_Get else bif Nat.beq g 17 then rice_Best else bif Nat.beq g 13 then overdublaw02_wakes else fun _ _ => none
theorem G9_10 : G9 10 = overdubkeep_Within := by kernel_rfl
theorem G9_22 : G9 22 = bits_NewWriter := by kernel_rfl
theorem G9_24 : G9 24 = rice_Put := by kernel_rfl
theorem G9_11 : G9 11 = rice_Size := by kernel_rfl
theorem G9_25 : G9 25 = bits_Writer_Len := by kernel_rfl
theorem G9_27 : G9 27 = bits_Writer_Bytes := by kernel_rfl
theorem G9_30 : G9 30 = bits_NewReader := by kernel_rfl
theorem G9_32 : G9 32 = rice_Get := by kernel_rfl
theorem G9_17 : G9 17 = rice_Best := by kernel_rfl
theorem G9_13 : G9 13 = overdublaw02_wakes := by kernel_rfl
def A9 : Ann := .two (.leaf) (.two (.leaf) (.two (.leaf) (.two (.two (.leaf) (.two (.two (.leaf) (.leaf)) (.leaf))) (.two (.leaf) (.two (.leaf) (.two (.two (.leaf) (.join [(1, .i .i64), (5, .s), (6, .s), (7, .i .i64)] [] [] (.loop [(6, .s), (7, .i .i64), (8, .i .i64)] [0, 1, 5] [0] (.two (.join [(30, .b)] [0, 1, 5, 6, 7, 8] [] (.leaf) (.two (.leaf) (.leaf))) (.two (.join [(0, .s), (1, .i .i64), (5, .s), (6, .s), (7, .i .i64), (8, .i .i64)] [] [] (.two (.leaf) (.two (.leaf) (.two (.two (.leaf) (.two (.two (.leaf) (.leaf)) (.leaf))) (.leaf)))) .leaf) (.leaf)))) .leaf)) (.two (.two (.leaf) (.two (.two (.leaf) (.leaf)) (.leaf))) (.two (.leaf) (.two (.two (.leaf) (.two (.two (.leaf) (.leaf)) (.leaf))) (.two (.two (.leaf) (.join [(6, .s), (7, .i .i64)] [] [] (.loop [(63, .i .i64)] [1, 6, 7, 10, 62] [2] (.two (.leaf) (.two (.two (.leaf) (.leaf)) (.two (.join [(1, .i .i64), (6, .s), (7, .i .i64), (10, .s), (62, .i .i64), (63, .i .i64)] [] [] (.two (.leaf) (.two (.leaf) (.join [(81, .b)] [1, 6, 7, 10, 62, 63] [] (.leaf) (.two (.two (.leaf) (.leaf)) (.leaf))))) .leaf) (.leaf))))) .leaf)) (.two (.leaf) (.two (.leaf) (.two (.two (.leaf) (.join [(7, .i .i64), (14, .i .i64), (15, .i .i64), (16, .i .i64)] [] [] (.loop [(16, .i .i64), (90, .i .i64)] [6, 7, 14, 15, 89] [4] (.two (.leaf) (.two (.two (.leaf) (.leaf)) (.two (.join [(6, .s), (7, .i .i64), (14, .i .i64), (15, .i .i64), (16, .i .i64), (89, .i .i64), (90, .i .i64)] [] [] (.two (.leaf) (.leaf)) .leaf) (.leaf))))) .leaf)) (.two (.leaf) (.leaf)))))))))))))))
def R9 : Slots := [(4, .b)]
noncomputable def overdublaw02_RiceBack : FunA := denF Try.prog G9 Try.f9 A9 R9
noncomputable def overdublaw02_RiceBack_L3_B (os vs : List AV) (μ : AMem) : Option Res := joinK [(16, .i .i64), (90, .i .i64)] vs (envO [6, 7, 14, 15, 89] os) fun e => den Try.prog G9 Try.f9.ntmps (cL (cL (cR (cL (cR (cR (cR (cR (cR (cR (cR (cR (cR (cR (cR (cR (cR (bodyOf Try.f9)))))))))))))))))) (aL (aL (aR (aL (aR (aR (aR (aR (aR (aR (aR (aR (aR (aR (aR (aR (aR A9))))))))))))))))) { ret := R9, exits := [(4, [(7, .i .i64), (14, .i .i64), (15, .i .i64), (16, .i .i64)])] } Res e μ fun ex e μ => some (ex, valsOf (Lv.at { ret := R9, exits := [(4, [(7, .i .i64), (14, .i .i64), (15, .i .i64), (16, .i .i64)])] } [(16, .i .i64), (90, .i .i64)] ex) e, μ)
noncomputable def overdublaw02_RiceBack_L3 (os vs : List AV) (μ : AMem) : Option Res := loopA (overdublaw02_RiceBack_L3_B os) vs μ
noncomputable def overdublaw02_RiceBack_L2_B (os vs : List AV) (μ : AMem) : Option Res := joinK [(63, .i .i64)] vs (envO [1, 6, 7, 10, 62] os) fun e => den Try.prog G9 Try.f9.ntmps (cL (cL (cR (cL (cR (cR (cR (cR (cR (cR (cR (cR (cR (cR (bodyOf Try.f9))))))))))))))) (aL (aL (aR (aL (aR (aR (aR (aR (aR (aR (aR (aR (aR (aR A9)))))))))))))) { ret := R9, exits := [(2, [(6, .s), (7, .i .i64)])] } Res e μ fun ex e μ => some (ex, valsOf (Lv.at { ret := R9, exits := [(2, [(6, .s), (7, .i .i64)])] } [(63, .i .i64)] ex) e, μ)
noncomputable def overdublaw02_RiceBack_L2 (os vs : List AV) (μ : AMem) : Option Res := loopA (overdublaw02_RiceBack_L2_B os) vs μ
noncomputable def overdublaw02_RiceBack_L1_B (os vs : List AV) (μ : AMem) : Option Res := joinK [(6, .s), (7, .i .i64), (8, .i .i64)] vs (envO [0, 1, 5] os) fun e => den Try.prog G9 Try.f9.ntmps (cL (cL (cR (cL (cR (cR (cR (cR (cR (cR (bodyOf Try.f9))))))))))) (aL (aL (aR (aL (aR (aR (aR (aR (aR (aR A9)))))))))) { ret := R9, exits := [(0, [(1, .i .i64), (5, .s), (6, .s), (7, .i .i64)])] } Res e μ fun ex e μ => some (ex, valsOf (Lv.at { ret := R9, exits := [(0, [(1, .i .i64), (5, .s), (6, .s), (7, .i .i64)])] } [(6, .s), (7, .i .i64), (8, .i .i64)] ex) e, μ)
noncomputable def overdublaw02_RiceBack_L1 (os vs : List AV) (μ : AMem) : Option Res := loopA (overdublaw02_RiceBack_L1_B os) vs μ
theorem overdublaw02_RiceBack_L3_B_eq (s6 : SV) (s7 : Int) (s14 : Int) (s15 : Int) (s89 : Int) (s16 : Int) (s90 : Int) (μ : AMem) : overdublaw02_RiceBack_L3_B [.s s6, .s (.int .i64 s7), .s (.int .i64 s14), .s (.int .i64 s15), .s (.int .i64 s89)] [.s (.int .i64 s16), .s (.int .i64 s90)] μ =
  bif decide (s90 < s89) then
  (indS 1 (.s s6) s90 fun p123 =>
    loadAt μ p123 fun v124 =>
    asI .i64 v124 fun n125 =>
    (rice_Size [.s (.int .i64 n125), .s (.int .i64 s14)] μ).bind fun r126 =>
    asI .i64 r126.1 fun n127 =>
    some (.normal, [.s (.int .i64 (IntKind.wrap .i64 (s16 + n127))), .s (.int .i64 (IntKind.wrap .i64 (s90 + 1)))], r126.2))
  else
  (some (.exit 4, [.s (.int .i64 s7), .s (.int .i64 s14), .s (.int .i64 s15), .s (.int .i64 s16)], μ)) := by rw [← G9_11]; kernel_rfl
theorem overdublaw02_RiceBack_L3_eq (os vs : List AV) (μ : AMem) : overdublaw02_RiceBack_L3 os vs μ = (overdublaw02_RiceBack_L3_B os vs μ).bind fun r => match r.1 with | .normal => overdublaw02_RiceBack_L3 os r.2.1 r.2.2 | _ => some r := loopA_eq _ _ _
theorem overdublaw02_RiceBack_L2_B_eq (s1 : Int) (s6 : SV) (s7 : Int) (s10 : SV) (s62 : Int) (s63 : Int) (μ : AMem) : overdublaw02_RiceBack_L2_B [.s (.int .i64 s1), .s s6, .s (.int .i64 s7), .s s10, .s (.int .i64 s62)] [.s (.int .i64 s63)] μ =
  bif decide (s63 < s62) then
  ((rice_Get [.s s10, .s (.int .i64 s1)] μ).bind fun r102 =>
    extrK 0 r102.1 fun t103 =>
    asI .i64 t103 fun n104 =>
    extrK 1 r102.1 fun t105 =>
    asB t105 fun b106 =>
    seqJ
    (bif !(!b106) then
      (indS 1 (.s s6) s63 fun p107 =>
        loadAt r102.2 p107 fun v108 =>
        asI .i64 v108 fun n109 =>
        some (.normal, [.s (.bool (n104 != n109))], r102.2))
      else
      (some (.normal, [.s (.bool true)], r102.2)))
    (fun vs110 m111 =>
      headK vs110 fun a112 r113 =>
      asB a112 fun b114 =>
      bif b114 then
      (some (.ret, [.s (.bool false)], m111))
      else
      (some (.normal, [.s (.int .i64 (IntKind.wrap .i64 (s63 + 1)))], m111)))
    (fun vs115 m116 =>
      headK vs115 fun a120 r121 =>
      asB a120 fun b122 =>
      some (.ret, [.s (.bool b122)], m116))
    (fun d119 vs117 m118 =>
      none))
  else
  (some (.exit 2, [.s s6, .s (.int .i64 s7)], μ)) := by rw [← G9_32]; kernel_rfl
theorem overdublaw02_RiceBack_L2_eq (os vs : List AV) (μ : AMem) : overdublaw02_RiceBack_L2 os vs μ = (overdublaw02_RiceBack_L2_B os vs μ).bind fun r => match r.1 with | .normal => overdublaw02_RiceBack_L2 os r.2.1 r.2.2 | _ => some r := loopA_eq _ _ _
theorem overdublaw02_RiceBack_L1_B_eq (s0 : SV) (s1 : Int) (s5 : SV) (s6 : SV) (s7 : Int) (s8 : Int) (μ : AMem) : overdublaw02_RiceBack_L1_B [.s s0, .s (.int .i64 s1), .s s5] [.s s6, .s (.int .i64 s7), .s (.int .i64 s8)] μ =
  seqJ
  ((lenS (.s s0)).bind fun l76 =>
    bif decide (s8 < ((l76 : Nat) : Int)) then
    (some (.normal, [.s (.bool (decide (s8 < 30)))], μ))
    else
    (some (.normal, [.s (.bool false)], μ)))
  (fun vs77 m78 =>
    headK vs77 fun a79 r80 =>
    asB a79 fun b81 =>
    bif b81 then
    (indS 1 (.s s0) s8 fun p82 =>
      loadAt m78 p82 fun v83 =>
      asI .i64 v83 fun n84 =>
      (overdubkeep_Within [.s (.int .i64 n84), .s (.int .i64 4294967296)] m78).bind fun r85 =>
      asI .i64 r85.1 fun n86 =>
      appendA 3 1 8 (r85.2.next + 3) ((r85.2.bump 5).set (r85.2.next + 2) (rowObj [.int .i64 n86] 1 3 (some 1))) (.s s6) (.s (.slice (r85.2.next + 2) 0 0 1)) fun x87 m88 =>
      asS x87 fun x89 =>
      (rice_Put [.s s5, .s (.int .i64 n86), .s (.int .i64 s1)] m88).bind fun r90 =>
      asB r90.1 fun b91 =>
      bif (!b91) then
      (some (.ret, [.s (.bool false)], r90.2))
      else
      ((rice_Size [.s (.int .i64 n86), .s (.int .i64 s1)] r90.2).bind fun r92 =>
        asI .i64 r92.1 fun n93 =>
        some (.normal, [.s x89, .s (.int .i64 (IntKind.wrap .i64 (s7 + n93))), .s (.int .i64 (IntKind.wrap .i64 (s8 + 1)))], r92.2)))
    else
    (some (.exit 0, [.s (.int .i64 s1), .s s5, .s s6, .s (.int .i64 s7)], m78)))
  (fun vs94 m95 =>
    headK vs94 fun a99 r100 =>
    asB a99 fun b101 =>
    some (.ret, [.s (.bool b101)], m95))
  (fun d98 vs96 m97 =>
    none) := by rw [← G9_10, ← G9_24, ← G9_11]; kernel_rfl
theorem overdublaw02_RiceBack_L1_eq (os vs : List AV) (μ : AMem) : overdublaw02_RiceBack_L1 os vs μ = (overdublaw02_RiceBack_L1_B os vs μ).bind fun r => match r.1 with | .normal => overdublaw02_RiceBack_L1 os r.2.1 r.2.2 | _ => some r := loopA_eq _ _ _
theorem overdublaw02_RiceBack_eq (p0 : SV) (p1 : Int) (μ : AMem) : overdublaw02_RiceBack [.s p0, .s (.int .i64 p1)] μ =
  (overdubkeep_Within [.s (.int .i64 p1), .s (.int .i64 25)] μ).bind fun r1 =>
  asI .i64 r1.1 fun n2 =>
  (bits_NewWriter [] r1.2).bind fun r3 =>
  asS r3.1 fun x4 =>
  (isNil (.s x4)).bind fun b5 =>
  bif b5 then
  (some (.s (.bool false), r3.2))
  else
  (seqJ (overdublaw02_RiceBack_L1 [.s p0, .s (.int .i64 n2), .s x4] [.s .nilSlice, .s (.int .i64 0), .s (.int .i64 0)] r3.2)
    (fun _ _ => none)
    (fun vs6 m7 =>
      headK vs6 fun a11 r12 =>
      asB a11 fun b13 =>
      some (.s (.bool b13), m7))
    (fun d10 vs8 m9 =>
      bif Nat.beq 0 d10 then (headK vs8 fun a14 r15 =>
        asI .i64 a14 fun n16 =>
        headK r15 fun a17 r18 =>
        asS a17 fun x19 =>
        headK r18 fun a20 r21 =>
        asS a20 fun x22 =>
        headK r21 fun a23 r24 =>
        asI .i64 a23 fun n25 =>
        (bits_Writer_Len [.s x19] m9).bind fun r26 =>
        asI .i64 r26.1 fun n27 =>
        bif (n27 != n25) then
        (some (.s (.bool false), r26.2))
        else
        ((bits_Writer_Bytes [.s x19] r26.2).bind fun r28 =>
          asS r28.1 fun x29 =>
          (bits_NewReader [.s x29] r28.2).bind fun r30 =>
          asS r30.1 fun x31 =>
          (isNil (.s x31)).bind fun b32 =>
          bif b32 then
          (some (.s (.bool false), r30.2))
          else
          ((lenS (.s x22)).bind fun l33 =>
            seqJ (overdublaw02_RiceBack_L2 [.s (.int .i64 n16), .s x22, .s (.int .i64 n25), .s x31, .s (.int .i64 ((l33 : Nat) : Int))] [.s (.int .i64 0)] r30.2)
            (fun _ _ => none)
            (fun vs34 m35 =>
              headK vs34 fun a39 r40 =>
              asB a39 fun b41 =>
              some (.s (.bool b41), m35))
            (fun d38 vs36 m37 =>
              bif Nat.beq 2 d38 then (headK vs36 fun a42 r43 =>
                asS a42 fun x44 =>
                headK r43 fun a45 r46 =>
                asI .i64 a45 fun n47 =>
                (rice_Best [.s x44] m37).bind fun r48 =>
                extrK 0 r48.1 fun t49 =>
                asI .i64 t49 fun n50 =>
                extrK 1 r48.1 fun t51 =>
                asI .i64 t51 fun n52 =>
                (lenS (.s x44)).bind fun l53 =>
                seqJ (overdublaw02_RiceBack_L3 [.s x44, .s (.int .i64 n47), .s (.int .i64 n50), .s (.int .i64 n52), .s (.int .i64 ((l53 : Nat) : Int))] [.s (.int .i64 0), .s (.int .i64 0)] r48.2)
                (fun _ _ => none)
                (fun vs54 m55 =>
                  headK vs54 fun a59 r60 =>
                  asB a59 fun b61 =>
                  some (.s (.bool b61), m55))
                (fun d58 vs56 m57 =>
                  bif Nat.beq 4 d58 then (headK vs56 fun a62 r63 =>
                    asI .i64 a62 fun n64 =>
                    headK r63 fun a65 r66 =>
                    asI .i64 a65 fun n67 =>
                    headK r66 fun a68 r69 =>
                    asI .i64 a68 fun n70 =>
                    headK r69 fun a71 r72 =>
                    asI .i64 a71 fun n73 =>
                    bif (n70 == n73) then
                    (bif decide (n70 ≤ n64) then
                      (bif decide (n67 ≥ 0) then
                        (bif decide (n67 ≤ 24) then
                          ((overdublaw02_wakes [] m57).bind fun r74 =>
                            asB r74.1 fun b75 =>
                            some (.s (.bool b75), r74.2))
                          else
                          (some (.s (.bool false), m57)))
                        else
                        (some (.s (.bool false), m57)))
                      else
                      (some (.s (.bool false), m57)))
                    else
                    (some (.s (.bool false), m57))) else (none))) else (none))))) else (none))) := by rw [← G9_10, ← G9_22, ← G9_25, ← G9_27, ← G9_30, ← G9_17, ← G9_13]; kernel_rfl

end Go.Proofs.Ytpdleoehllhbkaa
