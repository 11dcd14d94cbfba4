/- The Go functions as plain functions. -/
import Derived.Test.YtadhelkiinaenaaZfa
/- The Go functions as plain functions over abstract memory, and what each comes to. -/
namespace Go.Proofs.Ytadhelkiinaenaa
open Go Go.Proofs.Ytadhelkiinaenaa.E
set_option maxRecDepth 100000
set_option linter.unusedVariables false
/-! ### overdub/overdubref05.Coefficients -/
noncomputable def G67 : FuncId → FunA := fun g => bif Nat.beq g 92 then overdubref05_Auto else bif Nat.beq g 93 then overdubref05_Scaled else bif Nat.beq g 94 then overdubref05_down else bif Nat.beq g 72 then overdubref05_MayCoefs else fun _ _ => none
theorem G67_92 : G67 92 = overdubref05_Auto := by kernel_rfl
theorem G67_93 : G67 93 = overdubref05_Scaled := by kernel_rfl
theorem G67_94 : G67 94 = overdubref05_down := by kernel_rfl
theorem G67_72 : G67 72 = overdubref05_MayCoefs := by kernel_rfl
def A67 : Ann := .two (.leaf) (.two (.join [(29, .b)] [0, 1] [] (.leaf) (.two (.two (.leaf) (.leaf)) (.leaf))) (.two (.leaf) (.two (.two (.leaf) (.two (.two (.leaf) (.leaf)) (.leaf))) (.two (.leaf) (.two (.leaf) (.two (.leaf) (.two (.two (.leaf) (.join [(11, .s)] [] [] (.loop [(10, .i .i64), (12, .i .i64)] [1, 8, 11] [0] (.two (.two (.leaf) (.two (.leaf) (.leaf))) (.two (.join [(1, .i .i64), (8, .s), (10, .i .i64), (11, .s), (12, .i .i64)] [] [] (.two (.two (.leaf) (.two (.two (.leaf) (.leaf)) (.leaf))) (.two (.leaf) (.two (.two (.leaf) (.join [(1, .i .i64), (8, .s), (10, .i .i64), (11, .s), (12, .i .i64), (13, .i .i64)] [] [] (.loop [(13, .i .i64), (14, .i .i64)] [1, 8, 10, 11, 12] [2] (.two (.two (.leaf) (.two (.leaf) (.leaf))) (.two (.join [(1, .i .i64), (8, .s), (10, .i .i64), (11, .s), (12, .i .i64), (13, .i .i64), (14, .i .i64)] [] [] (.ord [0, 1, 2, 3, 4, 5, 6, 7, 8, 9, 10, 11, 12, 13]) .leaf) (.leaf)))) .leaf)) (.two (.leaf) (.two (.leaf) (.two (.two (.leaf) (.join [(1, .i .i64), (8, .s), (10, .i .i64), (11, .s), (12, .i .i64), (15, .i .i64)] [] [] (.loop [(17, .i .i64)] [1, 8, 10, 11, 12, 15, 16] [4] (.two (.two (.leaf) (.two (.leaf) (.leaf))) (.two (.join [(1, .i .i64), (8, .s), (10, .i .i64), (11, .s), (12, .i .i64), (15, .i .i64), (16, .s), (17, .i .i64)] [] [] (.ord [0, 1, 2, 3, 4, 5, 6, 7, 8, 9, 10, 11, 12, 13, 14, 15, 16, 17]) .leaf) (.leaf)))) .leaf)) (.two (.leaf) (.leaf)))))))) .leaf) (.leaf)))) .leaf)) (.two (.two (.leaf) (.two (.two (.leaf) (.leaf)) (.leaf))) (.two (.leaf) (.leaf))))))))))
def R67 : Slots := [(4, .s), (5, .b)]
noncomputable def overdubref05_Coefficients : FunA := denF Try.prog G67 Try.f67 A67 R67
noncomputable def overdubref05_Coefficients_L3_B (os vs : List AV) (μ : AMem) : Option Res := joinK [(17, .i .i64)] vs (envO [1, 8, 10, 11, 12, 15, 16] os) fun e => den Try.prog G67 Try.f67.ntmps (cL (cL (cR (cL (cR (cR (cR (cR (cR (cL (cL (cR (cL (cL (cR (cL (cR (cR (cR (cR (cR (cR (cR (bodyOf Try.f67)))))))))))))))))))))))) (aL (aL (aR (aL (aR (aR (aR (aR (aR (aL (aL (aR (aL (aL (aR (aL (aR (aR (aR (aR (aR (aR (aR A67))))))))))))))))))))))) { ret := R67, exits := [(4, [(1, .i .i64), (8, .s), (10, .i .i64), (11, .s), (12, .i .i64), (15, .i .i64)]), (1, [(1, .i .i64), (8, .s), (10, .i .i64), (11, .s), (12, .i .i64)]), (0, [(11, .s)])] } Res e μ fun ex e μ => some (ex, valsOf (Lv.at { ret := R67, exits := [(4, [(1, .i .i64), (8, .s), (10, .i .i64), (11, .s), (12, .i .i64), (15, .i .i64)]), (1, [(1, .i .i64), (8, .s), (10, .i .i64), (11, .s), (12, .i .i64)]), (0, [(11, .s)])] } [(17, .i .i64)] ex) e, μ)
noncomputable def overdubref05_Coefficients_L3 (os vs : List AV) (μ : AMem) : Option Res := loopA (overdubref05_Coefficients_L3_B os) vs μ
noncomputable def overdubref05_Coefficients_L2_B (os vs : List AV) (μ : AMem) : Option Res := joinK [(13, .i .i64), (14, .i .i64)] vs (envO [1, 8, 10, 11, 12] os) fun e => den Try.prog G67 Try.f67.ntmps (cL (cL (cR (cL (cR (cR (cL (cL (cR (cL (cL (cR (cL (cR (cR (cR (cR (cR (cR (cR (bodyOf Try.f67))))))))))))))))))))) (aL (aL (aR (aL (aR (aR (aL (aL (aR (aL (aL (aR (aL (aR (aR (aR (aR (aR (aR (aR A67)))))))))))))))))))) { ret := R67, exits := [(2, [(1, .i .i64), (8, .s), (10, .i .i64), (11, .s), (12, .i .i64), (13, .i .i64)]), (1, [(1, .i .i64), (8, .s), (10, .i .i64), (11, .s), (12, .i .i64)]), (0, [(11, .s)])] } Res e μ fun ex e μ => some (ex, valsOf (Lv.at { ret := R67, exits := [(2, [(1, .i .i64), (8, .s), (10, .i .i64), (11, .s), (12, .i .i64), (13, .i .i64)]), (1, [(1, .i .i64), (8, .s), (10, .i .i64), (11, .s), (12, .i .i64)]), (0, [(11, .s)])] } [(13, .i .i64), (14, .i .i64)] ex) e, μ)
noncomputable def overdubref05_Coefficients_L2 (os vs : List AV) (μ : AMem) : Option Res := loopA (overdubref05_Coefficients_L2_B os) vs μ
noncomputable def overdubref05_Coefficients_L1_B (os vs : List AV) (μ : AMem) : Option Res := joinK [(10, .i .i64), (12, .i .i64)] vs (envO [1, 8, 11] os) fun e => den Try.prog G67 Try.f67.ntmps (cL (cL (cR (cL (cR (cR (cR (cR (cR (cR (cR (bodyOf Try.f67)))))))))))) (aL (aL (aR (aL (aR (aR (aR (aR (aR (aR (aR A67))))))))))) { ret := R67, exits := [(0, [(11, .s)])] } Res e μ fun ex e μ => some (ex, valsOf (Lv.at { ret := R67, exits := [(0, [(11, .s)])] } [(10, .i .i64), (12, .i .i64)] ex) e, μ)
noncomputable def overdubref05_Coefficients_L1 (os vs : List AV) (μ : AMem) : Option Res := loopA (overdubref05_Coefficients_L1_B os) vs μ
theorem overdubref05_Coefficients_L3_B_eq (s1 : Int) (s8 : SV) (s10 : Int) (s11 : SV) (s12 : Int) (s15 : Int) (s16 : SV) (s17 : Int) (μ : AMem) : overdubref05_Coefficients_L3_B [.s (.int .i64 s1), .s s8, .s (.int .i64 s10), .s s11, .s (.int .i64 s12), .s (.int .i64 s15), .s s16] [.s (.int .i64 s17)] μ =
  bif decide (s17 < s12) then
  (indS 1 (.s s16) s17 fun p129 =>
    loadAt μ p129 fun v130 =>
    asI .i64 v130 fun n131 =>
    indS 1 (.s s16) (IntKind.wrap .i64 (s12 - s17)) fun p132 =>
    loadAt μ p132 fun v133 =>
    asI .i64 v133 fun n134 =>
    (overdubref05_down [.s (.int .i64 (IntKind.wrap .i64 (s15 * n134))), .s (.int .i64 4096)] μ).bind fun r135 =>
    asI .i64 r135.1 fun n136 =>
    checkA ((loadAt r135.2 p129 some) = some (.s (.int .i64 n131)))
    (indS 1 (.s s11) s17 fun p137 =>
      storeAt 1 r135.2 p137 (.s (.int .i64 (IntKind.wrap .i64 (n131 - n136)))) fun m138 =>
      some (.normal, [.s (.int .i64 (IntKind.wrap .i64 (s17 + 1)))], m138)))
  else
  (some (.exit 4, [.s (.int .i64 s1), .s s8, .s (.int .i64 s10), .s s11, .s (.int .i64 s12), .s (.int .i64 s15)], μ)) := by rw [← G67_94]; kernel_rfl
theorem overdubref05_Coefficients_L3_eq (os vs : List AV) (μ : AMem) : overdubref05_Coefficients_L3 os vs μ = (overdubref05_Coefficients_L3_B os vs μ).bind fun r => match r.1 with | .normal => overdubref05_Coefficients_L3 os r.2.1 r.2.2 | _ => some r := loopA_eq _ _ _
theorem overdubref05_Coefficients_L2_B_eq (s1 : Int) (s8 : SV) (s10 : Int) (s11 : SV) (s12 : Int) (s13 : Int) (s14 : Int) (μ : AMem) : overdubref05_Coefficients_L2_B [.s (.int .i64 s1), .s s8, .s (.int .i64 s10), .s s11, .s (.int .i64 s12)] [.s (.int .i64 s13), .s (.int .i64 s14)] μ =
  bif decide (s14 < s12) then
  (indS 1 (.s s11) s14 fun p123 =>
    loadAt μ p123 fun v124 =>
    asI .i64 v124 fun n125 =>
    indS 1 (.s s8) (IntKind.wrap .i64 (s12 - s14)) fun p126 =>
    loadAt μ p126 fun v127 =>
    asI .i64 v127 fun n128 =>
    some (.normal, [.s (.int .i64 (IntKind.wrap .i64 (s13 - (IntKind.wrap .i64 (n125 * n128))))), .s (.int .i64 (IntKind.wrap .i64 (s14 + 1)))], μ))
  else
  (some (.exit 2, [.s (.int .i64 s1), .s s8, .s (.int .i64 s10), .s s11, .s (.int .i64 s12), .s (.int .i64 s13)], μ)) := by kernel_rfl
theorem overdubref05_Coefficients_L2_eq (os vs : List AV) (μ : AMem) : overdubref05_Coefficients_L2 os vs μ = (overdubref05_Coefficients_L2_B os vs μ).bind fun r => match r.1 with | .normal => overdubref05_Coefficients_L2 os r.2.1 r.2.2 | _ => some r := loopA_eq _ _ _
theorem overdubref05_Coefficients_L1_B_eq (s1 : Int) (s8 : SV) (s11 : SV) (s10 : Int) (s12 : Int) (μ : AMem) : overdubref05_Coefficients_L1_B [.s (.int .i64 s1), .s s8, .s s11] [.s (.int .i64 s10), .s (.int .i64 s12)] μ =
  bif decide (s12 ≤ s1) then
  (bif decide (s10 < 1) then
    (some (.ret, [.s .nilSlice, .s (.bool false)], μ))
    else
    (indS 1 (.s s8) s12 fun p51 =>
      loadAt μ p51 fun v52 =>
      asI .i64 v52 fun n53 =>
      seqJ (overdubref05_Coefficients_L2 [.s (.int .i64 s1), .s s8, .s (.int .i64 s10), .s s11, .s (.int .i64 s12)] [.s (.int .i64 (IntKind.wrap .i64 (n53 * 4096))), .s (.int .i64 1)] μ)
      (fun _ _ => none)
      (fun vs54 m55 =>
        headK vs54 fun a59 r60 =>
        asS a59 fun x61 =>
        headK r60 fun a62 r63 =>
        asB a62 fun b64 =>
        some (.ret, [.s x61, .s (.bool b64)], m55))
      (fun d58 vs56 m57 =>
        bif Nat.beq 2 d58 then (headK vs56 fun a65 r66 =>
          asI .i64 a65 fun n67 =>
          headK r66 fun a68 r69 =>
          asS a68 fun x70 =>
          headK r69 fun a71 r72 =>
          asI .i64 a71 fun n73 =>
          headK r72 fun a74 r75 =>
          asS a74 fun x76 =>
          headK r75 fun a77 r78 =>
          asI .i64 a77 fun n79 =>
          headK r78 fun a80 r81 =>
          asI .i64 a80 fun n82 =>
          (overdubref05_down [.s (.int .i64 n82), .s (.int .i64 n73)] m57).bind fun r83 =>
          asI .i64 r83.1 fun n84 =>
          appendA 3 1 8 (r83.2.next + 1) (r83.2.bump 3) (.s .nilSlice) (.s x76) fun x85 m86 =>
          asS x85 fun x87 =>
          seqJ (overdubref05_Coefficients_L3 [.s (.int .i64 n67), .s x70, .s (.int .i64 n73), .s x76, .s (.int .i64 n79), .s (.int .i64 (if 4095 < (if (-4095) > n84 then (-4095) else n84) then 4095 else (if (-4095) > n84 then (-4095) else n84))), .s x87] [.s (.int .i64 1)] m86)
          (fun _ _ => none)
          (fun vs88 m89 =>
            headK vs88 fun a93 r94 =>
            asS a93 fun x95 =>
            headK r94 fun a96 r97 =>
            asB a96 fun b98 =>
            some (.ret, [.s x95, .s (.bool b98)], m89))
          (fun d92 vs90 m91 =>
            bif Nat.beq 4 d92 then (headK vs90 fun a99 r100 =>
              asI .i64 a99 fun n101 =>
              headK r100 fun a102 r103 =>
              asS a102 fun x104 =>
              headK r103 fun a105 r106 =>
              asI .i64 a105 fun n107 =>
              headK r106 fun a108 r109 =>
              asS a108 fun x110 =>
              headK r109 fun a111 r112 =>
              asI .i64 a111 fun n113 =>
              headK r112 fun a114 r115 =>
              asI .i64 a114 fun n116 =>
              indS 1 (.s x110) n113 fun p117 =>
              storeAt 1 m91 p117 (.s (.int .i64 n116)) fun m118 =>
              (overdubref05_down [.s (.int .i64 (IntKind.wrap .i64 (n116 * n116))), .s (.int .i64 4096)] m118).bind fun r119 =>
              asI .i64 r119.1 fun n120 =>
              (overdubref05_down [.s (.int .i64 (IntKind.wrap .i64 (n120 * n107))), .s (.int .i64 4096)] r119.2).bind fun r121 =>
              asI .i64 r121.1 fun n122 =>
              some (.normal, [.s (.int .i64 (IntKind.wrap .i64 (n107 - n122))), .s (.int .i64 (IntKind.wrap .i64 (n113 + 1)))], r121.2)) else (none))) else (none))))
  else
  (some (.exit 0, [.s s11], μ)) := by rw [← G67_94]; kernel_rfl
theorem overdubref05_Coefficients_L1_eq (os vs : List AV) (μ : AMem) : overdubref05_Coefficients_L1 os vs μ = (overdubref05_Coefficients_L1_B os vs μ).bind fun r => match r.1 with | .normal => overdubref05_Coefficients_L1 os r.2.1 r.2.2 | _ => some r := loopA_eq _ _ _
theorem overdubref05_Coefficients_eq (p0 : SV) (p1 : Int) (μ : AMem) : overdubref05_Coefficients [.s p0, .s (.int .i64 p1)] μ =
  seqJ
  (bif !(decide (p1 < 1)) then
    (bif !(decide (p1 > 12)) then
      ((lenS (.s p0)).bind fun l1 =>
        some (.normal, [.s (.bool (decide (((l1 : Nat) : Int) ≤ p1)))], μ))
      else
      (some (.normal, [.s (.bool true)], μ)))
    else
    (some (.normal, [.s (.bool true)], μ)))
  (fun vs2 m3 =>
    headK vs2 fun a4 r5 =>
    asB a4 fun b6 =>
    bif b6 then
    (some (.tuple [.s .nilSlice, .s (.bool false)], m3))
    else
    ((overdubref05_Auto [.s p0, .s (.int .i64 p1)] m3).bind fun r7 =>
      extrK 0 r7.1 fun t8 =>
      asS t8 fun x9 =>
      extrK 1 r7.1 fun t10 =>
      asI .i64 t10 fun n11 =>
      bif (n11 != 0) then
      (some (.tuple [.s .nilSlice, .s (.bool false)], r7.2))
      else
      ((overdubref05_Scaled [.s x9] r7.2).bind fun r12 =>
        extrK 0 r12.1 fun t13 =>
        asS t13 fun x14 =>
        extrK 1 r12.1 fun t15 =>
        asI .i64 t15 fun n16 =>
        indS 1 (.s x14) 0 fun p17 =>
        loadAt r12.2 p17 fun v18 =>
        asI .i64 v18 fun n19 =>
        if 0 ≤ (IntKind.wrap .i64 (p1 + 1)) ∧ (IntKind.wrap .i64 (p1 + 1)) ≤ (IntKind.wrap .i64 (p1 + 1)) ∧ (IntKind.wrap .i64 (p1 + 1)) ≤ 9223372036854775807 ∧ (8 : Nat) * (IntKind.wrap .i64 (p1 + 1)) ≤ 140737488355328 then
        (seqJ (overdubref05_Coefficients_L1 [.s (.int .i64 p1), .s x14, .s (.slice (r12.2.next + 2) 0 0 (Int.toNat (IntKind.wrap .i64 (p1 + 1))))] [.s (.int .i64 n19), .s (.int .i64 1)] ((r12.2.bump 4).set (r12.2.next + 2) (rowObj (zerosA [.int .i64 0] (Int.toNat (IntKind.wrap .i64 (p1 + 1)))) 1 3 (some (Int.toNat (IntKind.wrap .i64 (p1 + 1)))))))
          (fun _ _ => none)
          (fun vs20 m21 =>
            headK vs20 fun a25 r26 =>
            asS a25 fun x27 =>
            headK r26 fun a28 r29 =>
            asB a28 fun b30 =>
            some (.tuple [.s x27, .s (.bool b30)], m21))
          (fun d24 vs22 m23 =>
            bif Nat.beq 0 d24 then (headK vs22 fun a31 r32 =>
              asS a31 fun x33 =>
              (lenS (.s x33)).bind fun l34 =>
              cutS 1 (.s x33) 1 ((l34 : Nat) : Int) fun x35 =>
              (overdubref05_MayCoefs [x35] m23).bind fun r36 =>
              asB r36.1 fun b37 =>
              bif (!b37) then
              (some (.tuple [.s .nilSlice, .s (.bool false)], r36.2))
              else
              ((lenS (.s x33)).bind fun l38 =>
                cutS 1 (.s x33) 1 ((l38 : Nat) : Int) fun x39 =>
                some (.tuple [x39, .s (.bool true)], r36.2))) else (none))) else none)))
  (fun vs40 m41 =>
    headK vs40 fun a45 r46 =>
    asS a45 fun x47 =>
    headK r46 fun a48 r49 =>
    asB a48 fun b50 =>
    some (.tuple [.s x47, .s (.bool b50)], m41))
  (fun d44 vs42 m43 =>
    none) := by rw [← G67_92, ← G67_93, ← G67_72]; kernel_rfl

/-! ### overdub/overdubref05.Guess -/
noncomputable def G73 : FuncId → FunA := fun g => bif Nat.beq g 94 then overdubref05_down else fun _ _ => none
theorem G73_94 : G73 94 = overdubref05_down := by kernel_rfl
def A73 : Ann := .two (.leaf) (.two (.leaf) (.two (.two (.leaf) (.join [(5, .i .i64)] [] [] (.loop [(5, .i .i64), (6, .i .i64)] [0, 1] [0] (.two (.join [(22, .b)] [0, 1, 5, 6] [] (.leaf) (.two (.leaf) (.leaf))) (.join [(5, .i .i64)] [0, 1, 6] [] (.join [(0, .s), (1, .s), (5, .i .i64), (6, .i .i64)] [] [] (.two (.ord [0, 1, 2, 3, 4, 5, 6, 7, 8, 9, 10, 11, 12, 13]) (.two (.join [(50, .b)] [0, 1, 5, 6, 7, 8] [] (.leaf) (.two (.leaf) (.leaf))) (.leaf))) .leaf) (.leaf)))) .leaf)) (.two (.leaf) (.leaf))))
def R73 : Slots := [(4, .i .i64)]
noncomputable def overdubref05_Guess : FunA := denF Try.prog G73 Try.f73 A73 R73
noncomputable def overdubref05_Guess_L1_B (os vs : List AV) (μ : AMem) : Option Res := joinK [(5, .i .i64), (6, .i .i64)] vs (envO [0, 1] os) fun e => den Try.prog G73 Try.f73.ntmps (cL (cL (cR (cL (cR (cR (bodyOf Try.f73))))))) (aL (aL (aR (aL (aR (aR A73)))))) { ret := R73, exits := [(0, [(5, .i .i64)])] } Res e μ fun ex e μ => some (ex, valsOf (Lv.at { ret := R73, exits := [(0, [(5, .i .i64)])] } [(5, .i .i64), (6, .i .i64)] ex) e, μ)
noncomputable def overdubref05_Guess_L1 (os vs : List AV) (μ : AMem) : Option Res := loopA (overdubref05_Guess_L1_B os) vs μ
theorem overdubref05_Guess_L1_B_eq (s0 : SV) (s1 : SV) (s5 : Int) (s6 : Int) (μ : AMem) : overdubref05_Guess_L1_B [.s s0, .s s1] [.s (.int .i64 s5), .s (.int .i64 s6)] μ =
  seqJ
  ((lenS (.s s1)).bind fun l14 =>
    bif decide (s6 < ((l14 : Nat) : Int)) then
    ((lenS (.s s0)).bind fun l15 =>
      bif decide (s6 < ((l15 : Nat) : Int)) then
      (some (.normal, [.s (.bool (decide (s6 < 12)))], μ))
      else
      (some (.normal, [.s (.bool false)], μ)))
    else
    (some (.normal, [.s (.bool false)], μ)))
  (fun vs16 m17 =>
    headK vs16 fun a18 r19 =>
    asB a18 fun b20 =>
    bif b20 then
    (seqJ
      (indS 1 (.s s1) s6 fun p21 =>
        loadAt m17 p21 fun v22 =>
        asI .i64 v22 fun n23 =>
        (lenS (.s s0)).bind fun l24 =>
        indS 1 (.s s0) (IntKind.wrap .i64 ((IntKind.wrap .i64 (((l24 : Nat) : Int) - 1)) - s6)) fun p25 =>
        loadAt m17 p25 fun v26 =>
        asI .i64 v26 fun n27 =>
        seqJ
        (bif !(decide (n23 < (-32768))) then
          (bif !(decide (n23 > 32767)) then
            (bif !(decide (n27 < (-16777216))) then
              (some (.normal, [.s (.bool (decide (n27 > 16777216)))], m17))
              else
              (some (.normal, [.s (.bool true)], m17)))
            else
            (some (.normal, [.s (.bool true)], m17)))
          else
          (some (.normal, [.s (.bool true)], m17)))
        (fun vs28 m29 =>
          headK vs28 fun a30 r31 =>
          asB a30 fun b32 =>
          bif b32 then
          (some (.normal, [.s (.int .i64 s5)], m29))
          else
          (some (.normal, [.s (.int .i64 (IntKind.wrap .i64 (s5 + (IntKind.wrap .i64 (n23 * n27)))))], m29)))
        (fun vs33 m34 =>
          headK vs33 fun a38 r39 =>
          asI .i64 a38 fun n40 =>
          some (.ret, [.s (.int .i64 n40)], m34))
        (fun d37 vs35 m36 =>
          none))
      (fun vs41 m42 =>
        headK vs41 fun a43 r44 =>
        asI .i64 a43 fun n45 =>
        some (.normal, [.s (.int .i64 n45), .s (.int .i64 (IntKind.wrap .i64 (s6 + 1)))], m42))
      (fun vs46 m47 =>
        headK vs46 fun a51 r52 =>
        asI .i64 a51 fun n53 =>
        some (.ret, [.s (.int .i64 n53)], m47))
      (fun d50 vs48 m49 =>
        none))
    else
    (some (.exit 0, [.s (.int .i64 s5)], m17)))
  (fun vs54 m55 =>
    headK vs54 fun a59 r60 =>
    asI .i64 a59 fun n61 =>
    some (.ret, [.s (.int .i64 n61)], m55))
  (fun d58 vs56 m57 =>
    none) := by kernel_rfl
theorem overdubref05_Guess_L1_eq (os vs : List AV) (μ : AMem) : overdubref05_Guess_L1 os vs μ = (overdubref05_Guess_L1_B os vs μ).bind fun r => match r.1 with | .normal => overdubref05_Guess_L1 os r.2.1 r.2.2 | _ => some r := loopA_eq _ _ _
theorem overdubref05_Guess_eq (p0 : SV) (p1 : SV) (μ : AMem) : overdubref05_Guess [.s p0, .s p1] μ =
  seqJ (overdubref05_Guess_L1 [.s p0, .s p1] [.s (.int .i64 0), .s (.int .i64 0)] μ)
  (fun _ _ => none)
  (fun vs1 m2 =>
    headK vs1 fun a6 r7 =>
    asI .i64 a6 fun n8 =>
    some (.s (.int .i64 n8), m2))
  (fun d5 vs3 m4 =>
    bif Nat.beq 0 d5 then (headK vs3 fun a9 r10 =>
      asI .i64 a9 fun n11 =>
      (overdubref05_down [.s (.int .i64 n11), .s (.int .i64 4096)] m4).bind fun r12 =>
      asI .i64 r12.1 fun n13 =>
      some (.s (.int .i64 n13), r12.2)) else (none)) := by rw [← G73_94]; kernel_rfl

/-! ### overdub/overdubref05.LpcResidual -/
noncomputable def G68 : FuncId → FunA := fun g => bif Nat.beq g 72 then overdubref05_MayCoefs else bif Nat.beq g 39 then overdubref05_May else bif Nat.beq g 73 then overdubref05_Guess else fun _ _ => none
theorem G68_72 : G68 72 = overdubref05_MayCoefs := by kernel_rfl
theorem G68_39 : G68 39 = overdubref05_May := by kernel_rfl
theorem G68_73 : G68 73 = overdubref05_Guess := by kernel_rfl
def A68 : Ann := .two (.leaf) (.two (.join [(18, .b)] [0, 1] [] (.leaf) (.two (.two (.leaf) (.leaf)) (.leaf))) (.two (.two (.leaf) (.two (.leaf) (.two (.two (.leaf) (.leaf)) (.leaf)))) (.two (.leaf) (.two (.two (.leaf) (.join [(7, .s)] [] [] (.loop [(7, .s), (8, .i .i64)] [0, 1] [0] (.two (.two (.leaf) (.two (.leaf) (.leaf))) (.two (.join [(0, .s), (1, .s), (7, .s), (8, .i .i64)] [] [] (.ord [0, 1, 2, 3, 4, 5, 6, 7, 8, 9, 10, 11, 12, 13]) .leaf) (.leaf)))) .leaf)) (.two (.leaf) (.leaf))))))
def R68 : Slots := [(4, .s), (5, .i .i64)]
noncomputable def overdubref05_LpcResidual : FunA := denF Try.prog G68 Try.f68 A68 R68
noncomputable def overdubref05_LpcResidual_L1_B (os vs : List AV) (μ : AMem) : Option Res := joinK [(7, .s), (8, .i .i64)] vs (envO [0, 1] os) fun e => den Try.prog G68 Try.f68.ntmps (cL (cL (cR (cL (cR (cR (cR (cR (bodyOf Try.f68))))))))) (aL (aL (aR (aL (aR (aR (aR (aR A68)))))))) { ret := R68, exits := [(0, [(7, .s)])] } Res e μ fun ex e μ => some (ex, valsOf (Lv.at { ret := R68, exits := [(0, [(7, .s)])] } [(7, .s), (8, .i .i64)] ex) e, μ)
noncomputable def overdubref05_LpcResidual_L1 (os vs : List AV) (μ : AMem) : Option Res := loopA (overdubref05_LpcResidual_L1_B os) vs μ
theorem overdubref05_LpcResidual_L1_B_eq (s0 : SV) (s1 : SV) (s7 : SV) (s8 : Int) (μ : AMem) : overdubref05_LpcResidual_L1_B [.s s0, .s s1] [.s s7, .s (.int .i64 s8)] μ =
  (lenS (.s s0)).bind fun l38 =>
  bif decide (s8 < ((l38 : Nat) : Int)) then
  (indS 1 (.s s0) s8 fun p39 =>
    loadAt (μ.bump 14) p39 fun v40 =>
    asI .i64 v40 fun n41 =>
    cutS 1 (.s s0) 0 s8 fun x42 =>
    (overdubref05_Guess [x42, .s s1] (μ.bump 14)).bind fun r43 =>
    asI .i64 r43.1 fun n44 =>
    checkA ((loadAt r43.2 p39 some) = some (.s (.int .i64 n41)))
    (checkA (r43.2.obj (μ.next + 11) = none)
      (appendA 3 1 8 (μ.next + 12) (r43.2.set (μ.next + 11) (rowObj [.int .i64 (IntKind.wrap .i64 (n41 - n44))] 1 3 (some 1))) (.s s7) (.s (.slice (μ.next + 11) 0 0 1)) fun x45 m46 =>
        asS x45 fun x47 =>
        some (.normal, [.s x47, .s (.int .i64 (IntKind.wrap .i64 (s8 + 1)))], m46))))
  else
  (some (.exit 0, [.s s7], μ)) := by rw [← G68_73]; kernel_rfl
theorem overdubref05_LpcResidual_L1_eq (os vs : List AV) (μ : AMem) : overdubref05_LpcResidual_L1 os vs μ = (overdubref05_LpcResidual_L1_B os vs μ).bind fun r => match r.1 with | .normal => overdubref05_LpcResidual_L1 os r.2.1 r.2.2 | _ => some r := loopA_eq _ _ _
theorem overdubref05_LpcResidual_eq (p0 : SV) (p1 : SV) (μ : AMem) : overdubref05_LpcResidual [.s p0, .s p1] μ =
  seqJ
  ((overdubref05_MayCoefs [.s p1] μ).bind fun r1 =>
    asB r1.1 fun b2 =>
    bif !(!b2) then
    ((lenS (.s p0)).bind fun l3 =>
      (lenS (.s p1)).bind fun l4 =>
      some (.normal, [.s (.bool (decide (((l3 : Nat) : Int) < ((l4 : Nat) : Int))))], r1.2))
    else
    (some (.normal, [.s (.bool true)], r1.2)))
  (fun vs5 m6 =>
    headK vs5 fun a7 r8 =>
    asB a7 fun b9 =>
    bif b9 then
    (some (.tuple [.s .nilSlice, .s (.int .i64 1)], m6))
    else
    ((overdubref05_May [.s p0] m6).bind fun r10 =>
      asI .i64 r10.1 fun n11 =>
      bif (n11 != 0) then
      (some (.tuple [.s .nilSlice, .s (.int .i64 n11)], r10.2))
      else
      ((lenS (.s p1)).bind fun l12 =>
        seqJ (overdubref05_LpcResidual_L1 [.s p0, .s p1] [.s .nilSlice, .s (.int .i64 ((l12 : Nat) : Int))] r10.2)
        (fun _ _ => none)
        (fun vs13 m14 =>
          headK vs13 fun a18 r19 =>
          asS a18 fun x20 =>
          headK r19 fun a21 r22 =>
          asI .i64 a21 fun n23 =>
          some (.tuple [.s x20, .s (.int .i64 n23)], m14))
        (fun d17 vs15 m16 =>
          bif Nat.beq 0 d17 then (headK vs15 fun a24 r25 =>
            asS a24 fun x26 =>
            some (.tuple [.s x26, .s (.int .i64 0)], m16)) else (none)))))
  (fun vs27 m28 =>
    headK vs27 fun a32 r33 =>
    asS a32 fun x34 =>
    headK r33 fun a35 r36 =>
    asI .i64 a35 fun n37 =>
    some (.tuple [.s x34, .s (.int .i64 n37)], m28))
  (fun d31 vs29 m30 =>
    none) := by rw [← G68_72, ← G68_39]; kernel_rfl

/-! ### overdub/overdubref05.digits -/
noncomputable def G40 : FuncId → FunA := fun g => bif Nat.beq g 39 then overdubref05_May else bif Nat.beq g 63 then overdubref01_Bits_Put else bif Nat.beq g 64 then overdubref05_sample else bif Nat.beq g 65 then overdubref05_Residual else bif Nat.beq g 66 then overdubref05_residuals else bif Nat.beq g 67 then overdubref05_Coefficients else bif Nat.beq g 68 then overdubref05_LpcResidual else fun _ _ => none
theorem G40_39 : G40 39 = overdubref05_May := by kernel_rfl
theorem G40_63 : G40 63 = overdubref01_Bits_Put := by kernel_rfl
theorem G40_64 : G40 64 = overdubref05_sample := by kernel_rfl
theorem G40_65 : G40 65 = overdubref05_Residual := by kernel_rfl
theorem G40_66 : G40 66 = overdubref05_residuals := by kernel_rfl
theorem G40_67 : G40 67 = overdubref05_Coefficients := by kernel_rfl
theorem G40_68 : G40 68 = overdubref05_LpcResidual := by kernel_rfl
def A40 : Ann := .two (.leaf) (.two (.join [(34, .b)] [0, 1] [] (.leaf) (.two (.two (.leaf) (.leaf)) (.leaf))) (.two (.leaf) (.two (.leaf) (.two (.join [(0, .i .i64), (1, .s), (6, .s)] [] [] (.two (.leaf) (.two (.two (.two (.leaf) (.join [(1, .s), (6, .s)] [] [] (.loop [(52, .i .i64)] [1, 6, 51] [1] (.two (.leaf) (.two (.two (.leaf) (.leaf)) (.two (.join [(1, .s), (6, .s), (51, .i .i64), (52, .i .i64)] [] [] (.two (.leaf) (.two (.ord [0, 1, 2, 3, 4, 5, 6, 7]) (.two (.two (.leaf) (.leaf)) (.leaf)))) .leaf) (.leaf))))) .leaf)) (.two (.leaf) (.leaf))) (.two (.leaf) (.two (.two (.two (.leaf) (.join [(6, .s)] [] [] (.loop [(6, .s), (74, .i .i64)] [1, 73] [3] (.two (.leaf) (.two (.two (.leaf) (.leaf)) (.two (.join [(1, .s), (6, .s), (73, .i .i64), (74, .i .i64)] [] [] (.two (.leaf) (.leaf)) .leaf) (.leaf))))) .leaf)) (.two (.leaf) (.leaf))) (.two (.leaf) (.two (.two (.leaf) (.two (.two (.leaf) (.two (.two (.leaf) (.leaf)) (.leaf))) (.two (.two (.leaf) (.join [(6, .s), (10, .s)] [] [] (.loop [(6, .s), (12, .i .i64)] [0, 1, 10] [5] (.two (.two (.leaf) (.two (.leaf) (.leaf))) (.two (.join [(0, .i .i64), (1, .s), (6, .s), (10, .s), (12, .i .i64)] [] [] (.leaf) .leaf) (.leaf)))) .leaf)) (.two (.leaf) (.leaf))))) (.leaf))))))) .leaf) (.two (.leaf) (.two (.two (.leaf) (.two (.two (.leaf) (.leaf)) (.leaf))) (.two (.leaf) (.two (.two (.leaf) (.join [(6, .s), (13, .s), (15, .s)] [] [] (.loop [(6, .s), (131, .i .i64)] [1, 13, 15, 130] [7] (.two (.leaf) (.two (.two (.leaf) (.leaf)) (.two (.join [(1, .s), (6, .s), (13, .s), (15, .s), (130, .i .i64), (131, .i .i64)] [] [] (.two (.leaf) (.leaf)) .leaf) (.leaf))))) .leaf)) (.two (.two (.leaf) (.join [(6, .s), (15, .s)] [] [] (.loop [(6, .s), (143, .i .i64)] [13, 15, 142] [9] (.two (.leaf) (.two (.two (.leaf) (.leaf)) (.two (.join [(6, .s), (13, .s), (15, .s), (142, .i .i64), (143, .i .i64)] [] [] (.two (.leaf) (.leaf)) .leaf) (.leaf))))) .leaf)) (.two (.leaf) (.leaf)))))))))))
def R40 : Slots := [(4, .s), (5, .b)]
noncomputable def overdubref05_digits : FunA := denF Try.prog G40 Try.f40 A40 R40
noncomputable def overdubref05_digits_L5_B (os vs : List AV) (μ : AMem) : Option Res := joinK [(6, .s), (143, .i .i64)] vs (envO [13, 15, 142] os) fun e => den Try.prog G40 Try.f40.ntmps (cL (cL (cR (cL (cR (cR (cR (cR (cR (cR (cR (cR (cR (bodyOf Try.f40)))))))))))))) (aL (aL (aR (aL (aR (aR (aR (aR (aR (aR (aR (aR (aR A40))))))))))))) { ret := R40, exits := [(9, [(6, .s), (15, .s)])] } Res e μ fun ex e μ => some (ex, valsOf (Lv.at { ret := R40, exits := [(9, [(6, .s), (15, .s)])] } [(6, .s), (143, .i .i64)] ex) e, μ)
noncomputable def overdubref05_digits_L5 (os vs : List AV) (μ : AMem) : Option Res := loopA (overdubref05_digits_L5_B os) vs μ
noncomputable def overdubref05_digits_L4_B (os vs : List AV) (μ : AMem) : Option Res := joinK [(6, .s), (131, .i .i64)] vs (envO [1, 13, 15, 130] os) fun e => den Try.prog G40 Try.f40.ntmps (cL (cL (cR (cL (cR (cR (cR (cR (cR (cR (cR (cR (bodyOf Try.f40))))))))))))) (aL (aL (aR (aL (aR (aR (aR (aR (aR (aR (aR (aR A40)))))))))))) { ret := R40, exits := [(7, [(6, .s), (13, .s), (15, .s)])] } Res e μ fun ex e μ => some (ex, valsOf (Lv.at { ret := R40, exits := [(7, [(6, .s), (13, .s), (15, .s)])] } [(6, .s), (131, .i .i64)] ex) e, μ)
noncomputable def overdubref05_digits_L4 (os vs : List AV) (μ : AMem) : Option Res := loopA (overdubref05_digits_L4_B os) vs μ
noncomputable def overdubref05_digits_L3_B (os vs : List AV) (μ : AMem) : Option Res := joinK [(6, .s), (12, .i .i64)] vs (envO [0, 1, 10] os) fun e => den Try.prog G40 Try.f40.ntmps (cL (cL (cR (cL (cR (cR (cL (cR (cR (cR (cR (cR (cL (cL (cR (cR (cR (cR (bodyOf Try.f40))))))))))))))))))) (aL (aL (aR (aL (aR (aR (aL (aR (aR (aR (aR (aR (aL (aL (aR (aR (aR (aR A40)))))))))))))))))) { ret := R40, exits := [(5, [(6, .s), (10, .s)]), (0, [(0, .i .i64), (1, .s), (6, .s)])] } Res e μ fun ex e μ => some (ex, valsOf (Lv.at { ret := R40, exits := [(5, [(6, .s), (10, .s)]), (0, [(0, .i .i64), (1, .s), (6, .s)])] } [(6, .s), (12, .i .i64)] ex) e, μ)
noncomputable def overdubref05_digits_L3 (os vs : List AV) (μ : AMem) : Option Res := loopA (overdubref05_digits_L3_B os) vs μ
noncomputable def overdubref05_digits_L2_B (os vs : List AV) (μ : AMem) : Option Res := joinK [(6, .s), (74, .i .i64)] vs (envO [1, 73] os) fun e => den Try.prog G40 Try.f40.ntmps (cL (cL (cR (cL (cL (cR (cR (cR (cL (cL (cR (cR (cR (cR (bodyOf Try.f40))))))))))))))) (aL (aL (aR (aL (aL (aR (aR (aR (aL (aL (aR (aR (aR (aR A40)))))))))))))) { ret := R40, exits := [(3, [(6, .s)]), (0, [(0, .i .i64), (1, .s), (6, .s)])] } Res e μ fun ex e μ => some (ex, valsOf (Lv.at { ret := R40, exits := [(3, [(6, .s)]), (0, [(0, .i .i64), (1, .s), (6, .s)])] } [(6, .s), (74, .i .i64)] ex) e, μ)
noncomputable def overdubref05_digits_L2 (os vs : List AV) (μ : AMem) : Option Res := loopA (overdubref05_digits_L2_B os) vs μ
noncomputable def overdubref05_digits_L1_B (os vs : List AV) (μ : AMem) : Option Res := joinK [(52, .i .i64)] vs (envO [1, 6, 51] os) fun e => den Try.prog G40 Try.f40.ntmps (cL (cL (cR (cL (cL (cR (cL (cL (cR (cR (cR (cR (bodyOf Try.f40))))))))))))) (aL (aL (aR (aL (aL (aR (aL (aL (aR (aR (aR (aR A40)))))))))))) { ret := R40, exits := [(1, [(1, .s), (6, .s)]), (0, [(0, .i .i64), (1, .s), (6, .s)])] } Res e μ fun ex e μ => some (ex, valsOf (Lv.at { ret := R40, exits := [(1, [(1, .s), (6, .s)]), (0, [(0, .i .i64), (1, .s), (6, .s)])] } [(52, .i .i64)] ex) e, μ)
noncomputable def overdubref05_digits_L1 (os vs : List AV) (μ : AMem) : Option Res := loopA (overdubref05_digits_L1_B os) vs μ
theorem overdubref05_digits_L5_B_eq (s13 : SV) (s15 : SV) (s142 : Int) (s6 : SV) (s143 : Int) (μ : AMem) : overdubref05_digits_L5_B [.s s13, .s s15, .s (.int .i64 s142)] [.s s6, .s (.int .i64 s143)] μ =
  bif decide (s143 < s142) then
  (indS 1 (.s s13) s143 fun p171 =>
    loadAt μ p171 fun v172 =>
    asI .i64 v172 fun n173 =>
    (overdubref01_Bits_Put [.s s6, .s (.int .i64 (IntKind.wrap .i64 (n173 + 32768))), .s (.int .i64 16)] μ).bind fun r174 =>
    extrK 0 r174.1 fun t175 =>
    asS t175 fun x176 =>
    extrK 1 r174.1 fun t177 =>
    asB t177 fun b178 =>
    some (.normal, [.s x176, .s (.int .i64 (IntKind.wrap .i64 (s143 + 1)))], r174.2))
  else
  (some (.exit 9, [.s s6, .s s15], μ)) := by rw [← G40_63]; kernel_rfl
theorem overdubref05_digits_L5_eq (os vs : List AV) (μ : AMem) : overdubref05_digits_L5 os vs μ = (overdubref05_digits_L5_B os vs μ).bind fun r => match r.1 with | .normal => overdubref05_digits_L5 os r.2.1 r.2.2 | _ => some r := loopA_eq _ _ _
theorem overdubref05_digits_L4_B_eq (s1 : SV) (s13 : SV) (s15 : SV) (s130 : Int) (s6 : SV) (s131 : Int) (μ : AMem) : overdubref05_digits_L4_B [.s s1, .s s13, .s s15, .s (.int .i64 s130)] [.s s6, .s (.int .i64 s131)] μ =
  bif decide (s131 < s130) then
  (indS 1 (.s s1) s131 fun p166 =>
    loadAt μ p166 fun v167 =>
    asI .i64 v167 fun n168 =>
    (overdubref05_sample [.s s6, .s (.int .i64 n168)] μ).bind fun r169 =>
    asS r169.1 fun x170 =>
    some (.normal, [.s x170, .s (.int .i64 (IntKind.wrap .i64 (s131 + 1)))], r169.2))
  else
  (some (.exit 7, [.s s6, .s s13, .s s15], μ)) := by rw [← G40_64]; kernel_rfl
theorem overdubref05_digits_L4_eq (os vs : List AV) (μ : AMem) : overdubref05_digits_L4 os vs μ = (overdubref05_digits_L4_B os vs μ).bind fun r => match r.1 with | .normal => overdubref05_digits_L4 os r.2.1 r.2.2 | _ => some r := loopA_eq _ _ _
theorem overdubref05_digits_L3_B_eq (s0 : Int) (s1 : SV) (s10 : SV) (s6 : SV) (s12 : Int) (μ : AMem) : overdubref05_digits_L3_B [.s (.int .i64 s0), .s s1, .s s10] [.s s6, .s (.int .i64 s12)] μ =
  bif decide (s12 < (IntKind.wrap .i64 (s0 - 2))) then
  (indS 1 (.s s1) s12 fun p161 =>
    loadAt μ p161 fun v162 =>
    asI .i64 v162 fun n163 =>
    (overdubref05_sample [.s s6, .s (.int .i64 n163)] μ).bind fun r164 =>
    asS r164.1 fun x165 =>
    some (.normal, [.s x165, .s (.int .i64 (IntKind.wrap .i64 (s12 + 1)))], r164.2))
  else
  (some (.exit 5, [.s s6, .s s10], μ)) := by rw [← G40_64]; kernel_rfl
theorem overdubref05_digits_L3_eq (os vs : List AV) (μ : AMem) : overdubref05_digits_L3 os vs μ = (overdubref05_digits_L3_B os vs μ).bind fun r => match r.1 with | .normal => overdubref05_digits_L3 os r.2.1 r.2.2 | _ => some r := loopA_eq _ _ _
theorem overdubref05_digits_L2_B_eq (s1 : SV) (s73 : Int) (s6 : SV) (s74 : Int) (μ : AMem) : overdubref05_digits_L2_B [.s s1, .s (.int .i64 s73)] [.s s6, .s (.int .i64 s74)] μ =
  bif decide (s74 < s73) then
  (indS 1 (.s s1) s74 fun p156 =>
    loadAt μ p156 fun v157 =>
    asI .i64 v157 fun n158 =>
    (overdubref05_sample [.s s6, .s (.int .i64 n158)] μ).bind fun r159 =>
    asS r159.1 fun x160 =>
    some (.normal, [.s x160, .s (.int .i64 (IntKind.wrap .i64 (s74 + 1)))], r159.2))
  else
  (some (.exit 3, [.s s6], μ)) := by rw [← G40_64]; kernel_rfl
theorem overdubref05_digits_L2_eq (os vs : List AV) (μ : AMem) : overdubref05_digits_L2 os vs μ = (overdubref05_digits_L2_B os vs μ).bind fun r => match r.1 with | .normal => overdubref05_digits_L2 os r.2.1 r.2.2 | _ => some r := loopA_eq _ _ _
theorem overdubref05_digits_L1_B_eq (s1 : SV) (s6 : SV) (s51 : Int) (s52 : Int) (μ : AMem) : overdubref05_digits_L1_B [.s s1, .s s6, .s (.int .i64 s51)] [.s (.int .i64 s52)] μ =
  bif decide (s52 < s51) then
  (indS 1 (.s s1) s52 fun p150 =>
    loadAt μ p150 fun v151 =>
    asI .i64 v151 fun n152 =>
    indS 1 (.s s1) 0 fun p153 =>
    loadAt μ p153 fun v154 =>
    asI .i64 v154 fun n155 =>
    bif (n152 != n155) then
    (some (.ret, [.s .nilSlice, .s (.bool false)], μ))
    else
    (some (.normal, [.s (.int .i64 (IntKind.wrap .i64 (s52 + 1)))], μ)))
  else
  (some (.exit 1, [.s s1, .s s6], μ)) := by kernel_rfl
theorem overdubref05_digits_L1_eq (os vs : List AV) (μ : AMem) : overdubref05_digits_L1 os vs μ = (overdubref05_digits_L1_B os vs μ).bind fun r => match r.1 with | .normal => overdubref05_digits_L1 os r.2.1 r.2.2 | _ => some r := loopA_eq _ _ _
theorem overdubref05_digits_eq (p0 : Int) (p1 : SV) (μ : AMem) : overdubref05_digits [.s (.int .i64 p0), .s p1] μ =
  seqJ
  ((lenS (.s p1)).bind fun l1 =>
    bif !(decide (((l1 : Nat) : Int) < 1)) then
    ((overdubref05_May [.s p1] μ).bind fun r2 =>
      asI .i64 r2.1 fun n3 =>
      bif !(n3 != 0) then
      (bif !(decide (p0 < 0)) then
        (some (.normal, [.s (.bool (decide (p0 > 18)))], r2.2))
        else
        (some (.normal, [.s (.bool true)], r2.2)))
      else
      (some (.normal, [.s (.bool true)], r2.2)))
    else
    (some (.normal, [.s (.bool true)], μ)))
  (fun vs4 m5 =>
    headK vs4 fun a6 r7 =>
    asB a6 fun b8 =>
    bif b8 then
    (some (.tuple [.s .nilSlice, .s (.bool false)], m5))
    else
    ((overdubref01_Bits_Put [.s .nilSlice, .s (.int .i64 p0), .s (.int .i64 8)] m5).bind fun r9 =>
      extrK 0 r9.1 fun t10 =>
      asS t10 fun x11 =>
      extrK 1 r9.1 fun t12 =>
      asB t12 fun b13 =>
      (lenS (.s p1)).bind fun l14 =>
      (overdubref01_Bits_Put [.s x11, .s (.int .i64 ((l14 : Nat) : Int)), .s (.int .i64 8)] r9.2).bind fun r15 =>
      extrK 0 r15.1 fun t16 =>
      asS t16 fun x17 =>
      extrK 1 r15.1 fun t18 =>
      asB t18 fun b19 =>
      bif (p0 == 0) then
      ((lenS (.s p1)).bind fun l20 =>
        seqJ (overdubref05_digits_L1 [.s p1, .s x17, .s (.int .i64 ((l20 : Nat) : Int))] [.s (.int .i64 0)] r15.2)
        (fun _ _ => none)
        (fun vs21 m22 =>
          headK vs21 fun a26 r27 =>
          asS a26 fun x28 =>
          headK r27 fun a29 r30 =>
          asB a29 fun b31 =>
          some (.tuple [.s x28, .s (.bool b31)], m22))
        (fun d25 vs23 m24 =>
          bif Nat.beq 1 d25 then (headK vs23 fun a32 r33 =>
            asS a32 fun x34 =>
            headK r33 fun a35 r36 =>
            asS a35 fun x37 =>
            indS 1 (.s x34) 0 fun p38 =>
            loadAt m24 p38 fun v39 =>
            asI .i64 v39 fun n40 =>
            (overdubref05_sample [.s x37, .s (.int .i64 n40)] m24).bind fun r41 =>
            asS r41.1 fun x42 =>
            some (.tuple [.s x42, .s (.bool true)], r41.2)) else (none)))
      else
      (bif (p0 == 1) then
        ((lenS (.s p1)).bind fun l43 =>
          seqJ (overdubref05_digits_L2 [.s p1, .s (.int .i64 ((l43 : Nat) : Int))] [.s x17, .s (.int .i64 0)] r15.2)
          (fun _ _ => none)
          (fun vs44 m45 =>
            headK vs44 fun a49 r50 =>
            asS a49 fun x51 =>
            headK r50 fun a52 r53 =>
            asB a52 fun b54 =>
            some (.tuple [.s x51, .s (.bool b54)], m45))
          (fun d48 vs46 m47 =>
            bif Nat.beq 3 d48 then (headK vs46 fun a55 r56 =>
              asS a55 fun x57 =>
              some (.tuple [.s x57, .s (.bool true)], m47)) else (none)))
        else
        (bif decide (p0 ≤ 6) then
          ((overdubref05_Residual [.s p1, .s (.int .i64 (IntKind.wrap .i64 (p0 - 2)))] r15.2).bind fun r58 =>
            extrK 0 r58.1 fun t59 =>
            asS t59 fun x60 =>
            extrK 1 r58.1 fun t61 =>
            asI .i64 t61 fun n62 =>
            bif (n62 != 0) then
            (some (.tuple [.s .nilSlice, .s (.bool false)], r58.2))
            else
            (seqJ (overdubref05_digits_L3 [.s (.int .i64 p0), .s p1, .s x60] [.s x17, .s (.int .i64 0)] r58.2)
              (fun _ _ => none)
              (fun vs63 m64 =>
                headK vs63 fun a68 r69 =>
                asS a68 fun x70 =>
                headK r69 fun a71 r72 =>
                asB a71 fun b73 =>
                some (.tuple [.s x70, .s (.bool b73)], m64))
              (fun d67 vs65 m66 =>
                bif Nat.beq 5 d67 then (headK vs65 fun a74 r75 =>
                  asS a74 fun x76 =>
                  headK r75 fun a77 r78 =>
                  asS a77 fun x79 =>
                  (overdubref05_residuals [.s x76, .s x79] m66).bind fun r80 =>
                  extrK 0 r80.1 fun t81 =>
                  asS t81 fun x82 =>
                  extrK 1 r80.1 fun t83 =>
                  asB t83 fun b84 =>
                  some (.tuple [.s x82, .s (.bool b84)], r80.2)) else (none))))
          else
          ((overdubref05_Coefficients [.s p1, .s (.int .i64 (IntKind.wrap .i64 (p0 - 6)))] r15.2).bind fun r85 =>
            extrK 0 r85.1 fun t86 =>
            asS t86 fun x87 =>
            extrK 1 r85.1 fun t88 =>
            asB t88 fun b89 =>
            bif (!b89) then
            (some (.tuple [.s .nilSlice, .s (.bool false)], r85.2))
            else
            ((overdubref05_LpcResidual [.s p1, .s x87] r85.2).bind fun r90 =>
              extrK 0 r90.1 fun t91 =>
              asS t91 fun x92 =>
              extrK 1 r90.1 fun t93 =>
              asI .i64 t93 fun n94 =>
              (lenS (.s x87)).bind fun l95 =>
              seqJ (overdubref05_digits_L4 [.s p1, .s x87, .s x92, .s (.int .i64 ((l95 : Nat) : Int))] [.s x17, .s (.int .i64 0)] r90.2)
              (fun _ _ => none)
              (fun vs96 m97 =>
                headK vs96 fun a101 r102 =>
                asS a101 fun x103 =>
                headK r102 fun a104 r105 =>
                asB a104 fun b106 =>
                some (.tuple [.s x103, .s (.bool b106)], m97))
              (fun d100 vs98 m99 =>
                bif Nat.beq 7 d100 then (headK vs98 fun a107 r108 =>
                  asS a107 fun x109 =>
                  headK r108 fun a110 r111 =>
                  asS a110 fun x112 =>
                  headK r111 fun a113 r114 =>
                  asS a113 fun x115 =>
                  (lenS (.s x112)).bind fun l116 =>
                  seqJ (overdubref05_digits_L5 [.s x112, .s x115, .s (.int .i64 ((l116 : Nat) : Int))] [.s x109, .s (.int .i64 0)] m99)
                  (fun _ _ => none)
                  (fun vs117 m118 =>
                    headK vs117 fun a122 r123 =>
                    asS a122 fun x124 =>
                    headK r123 fun a125 r126 =>
                    asB a125 fun b127 =>
                    some (.tuple [.s x124, .s (.bool b127)], m118))
                  (fun d121 vs119 m120 =>
                    bif Nat.beq 9 d121 then (headK vs119 fun a128 r129 =>
                      asS a128 fun x130 =>
                      headK r129 fun a131 r132 =>
                      asS a131 fun x133 =>
                      (overdubref05_residuals [.s x130, .s x133] m120).bind fun r134 =>
                      extrK 0 r134.1 fun t135 =>
                      asS t135 fun x136 =>
                      extrK 1 r134.1 fun t137 =>
                      asB t137 fun b138 =>
                      some (.tuple [.s x136, .s (.bool b138)], r134.2)) else (none))) else (none))))))))
  (fun vs139 m140 =>
    headK vs139 fun a144 r145 =>
    asS a144 fun x146 =>
    headK r145 fun a147 r148 =>
    asB a147 fun b149 =>
    some (.tuple [.s x146, .s (.bool b149)], m140))
  (fun d143 vs141 m142 =>
    none) := by rw [← G40_39, ← G40_63, ← G40_64, ← G40_65, ← G40_66, ← G40_67, ← G40_68]; kernel_rfl

/-! ### (overdub/overdubref01.Bits).Bytes -/
noncomputable def G41 : FuncId → FunA := fun _ _ _ => none
def A41 : Ann := .two (.leaf) (.two (.leaf) (.two (.two (.leaf) (.join [(3, .s)] [] [] (.loop [(12, .i .i64)] [0, 3, 11] [0] (.two (.leaf) (.two (.two (.leaf) (.leaf)) (.two (.join [(0, .s), (3, .s), (11, .i .i64), (12, .i .i64)] [] [] (.two (.leaf) (.ord [0, 1, 2, 3, 4, 5, 6, 7, 8, 9, 10, 11, 12, 13, 14, 15, 16])) .leaf) (.leaf))))) .leaf)) (.two (.leaf) (.leaf))))
def R41 : Slots := [(2, .s)]
noncomputable def overdubref01_Bits_Bytes : FunA := denF Try.prog G41 Try.f41 A41 R41
noncomputable def overdubref01_Bits_Bytes_L1_B (os vs : List AV) (μ : AMem) : Option Res := joinK [(12, .i .i64)] vs (envO [0, 3, 11] os) fun e => den Try.prog G41 Try.f41.ntmps (cL (cL (cR (cL (cR (cR (bodyOf Try.f41))))))) (aL (aL (aR (aL (aR (aR A41)))))) { ret := R41, exits := [(0, [(3, .s)])] } Res e μ fun ex e μ => some (ex, valsOf (Lv.at { ret := R41, exits := [(0, [(3, .s)])] } [(12, .i .i64)] ex) e, μ)
noncomputable def overdubref01_Bits_Bytes_L1 (os vs : List AV) (μ : AMem) : Option Res := loopA (overdubref01_Bits_Bytes_L1_B os) vs μ
theorem overdubref01_Bits_Bytes_L1_B_eq (s0 : SV) (s3 : SV) (s11 : Int) (s12 : Int) (μ : AMem) : overdubref01_Bits_Bytes_L1_B [.s s0, .s s3, .s (.int .i64 s11)] [.s (.int .i64 s12)] μ =
  bif decide (s12 < s11) then
  (indS 1 (.s s3) (IntKind.wrap .i64 (Int.tdiv s12 8)) fun p14 =>
    loadAt μ p14 fun v15 =>
    asI .u8 v15 fun n16 =>
    indS 1 (.s s0) s12 fun p17 =>
    loadAt μ p17 fun v18 =>
    asI .u8 v18 fun n19 =>
    if (IntKind.wrap .u64 (IntKind.wrap .i64 (7 - (Int.tmod s12 8)))) < 0 then none else
    (indS 1 (.s s3) (IntKind.wrap .i64 (Int.tdiv s12 8)) fun p20 =>
      storeAt 1 μ p20 (.s (.int .u8 (IntKind.wrap .u8 (BitVec.toNat ((BitVec.ofInt (IntKind.bits .u8) n16) ||| (BitVec.ofInt (IntKind.bits .u8) (IntKind.wrap .u8 (n19 * 2 ^ (min (Int.toNat (IntKind.wrap .u64 (IntKind.wrap .i64 (7 - (Int.tmod s12 8))))) (IntKind.bits .u8)))))))))) fun m21 =>
      some (.normal, [.s (.int .i64 (IntKind.wrap .i64 (s12 + 1)))], m21)))
  else
  (some (.exit 0, [.s s3], μ)) := by kernel_rfl
theorem overdubref01_Bits_Bytes_L1_eq (os vs : List AV) (μ : AMem) : overdubref01_Bits_Bytes_L1 os vs μ = (overdubref01_Bits_Bytes_L1_B os vs μ).bind fun r => match r.1 with | .normal => overdubref01_Bits_Bytes_L1 os r.2.1 r.2.2 | _ => some r := loopA_eq _ _ _
theorem overdubref01_Bits_Bytes_eq (p0 : SV) (μ : AMem) : overdubref01_Bits_Bytes [.s p0] μ =
  (lenS (.s p0)).bind fun l1 =>
  if 0 ≤ (IntKind.wrap .i64 (Int.tdiv (IntKind.wrap .i64 (((l1 : Nat) : Int) + 7)) 8)) ∧ (IntKind.wrap .i64 (Int.tdiv (IntKind.wrap .i64 (((l1 : Nat) : Int) + 7)) 8)) ≤ (IntKind.wrap .i64 (Int.tdiv (IntKind.wrap .i64 (((l1 : Nat) : Int) + 7)) 8)) ∧ (IntKind.wrap .i64 (Int.tdiv (IntKind.wrap .i64 (((l1 : Nat) : Int) + 7)) 8)) ≤ 9223372036854775807 ∧ (1 : Nat) * (IntKind.wrap .i64 (Int.tdiv (IntKind.wrap .i64 (((l1 : Nat) : Int) + 7)) 8)) ≤ 140737488355328 then
  ((lenS (.s p0)).bind fun l2 =>
    seqJ (overdubref01_Bits_Bytes_L1 [.s p0, .s (.slice (μ.next + 4) 0 0 (Int.toNat (IntKind.wrap .i64 (Int.tdiv (IntKind.wrap .i64 (((l1 : Nat) : Int) + 7)) 8)))), .s (.int .i64 ((l2 : Nat) : Int))] [.s (.int .i64 0)] ((μ.bump 6).set (μ.next + 4) (rowObj (zerosA [.int .u8 0] (Int.toNat (IntKind.wrap .i64 (Int.tdiv (IntKind.wrap .i64 (((l1 : Nat) : Int) + 7)) 8)))) 1 5 (some (Int.toNat (IntKind.wrap .i64 (Int.tdiv (IntKind.wrap .i64 (((l1 : Nat) : Int) + 7)) 8)))))))
    (fun _ _ => none)
    (fun vs3 m4 =>
      headK vs3 fun a8 r9 =>
      asS a8 fun x10 =>
      some (.s x10, m4))
    (fun d7 vs5 m6 =>
      bif Nat.beq 0 d7 then (headK vs5 fun a11 r12 =>
        asS a11 fun x13 =>
        some (.s x13, m6)) else (none))) else none := by kernel_rfl

/-! ### overdub/overdubref05.Encode -/
noncomputable def G24 : FuncId → FunA := fun g => bif Nat.beq g 39 then overdubref05_May else bif Nat.beq g 40 then overdubref05_digits else bif Nat.beq g 41 then overdubref01_Bits_Bytes else fun _ _ => none
theorem G24_39 : G24 39 = overdubref05_May := by kernel_rfl
theorem G24_40 : G24 40 = overdubref05_digits := by kernel_rfl
theorem G24_41 : G24 41 = overdubref01_Bits_Bytes := by kernel_rfl
def A24 : Ann := .two (.leaf) (.two (.join [(15, .b)] [0] [] (.leaf) (.two (.two (.leaf) (.leaf)) (.leaf))) (.two (.two (.leaf) (.two (.two (.leaf) (.leaf)) (.leaf))) (.two (.leaf) (.two (.two (.leaf) (.join [(4, .s)] [] [] (.loop [(4, .s), (5, .i .i64)] [0] [0] (.two (.two (.leaf) (.two (.leaf) (.leaf))) (.join [(4, .s)] [0, 5] [] (.join [(0, .s), (4, .s), (5, .i .i64)] [] [] (.two (.leaf) (.join [(41, .b)] [0, 4, 5, 6] [] (.leaf) (.two (.leaf) (.leaf)))) .leaf) (.leaf)))) .leaf)) (.two (.leaf) (.leaf))))))
def R24 : Slots := [(2, .s), (3, .i .i64)]
noncomputable def overdubref05_Encode : FunA := denF Try.prog G24 Try.f24 A24 R24
noncomputable def overdubref05_Encode_L1_B (os vs : List AV) (μ : AMem) : Option Res := joinK [(4, .s), (5, .i .i64)] vs (envO [0] os) fun e => den Try.prog G24 Try.f24.ntmps (cL (cL (cR (cL (cR (cR (cR (cR (bodyOf Try.f24))))))))) (aL (aL (aR (aL (aR (aR (aR (aR A24)))))))) { ret := R24, exits := [(0, [(4, .s)])] } Res e μ fun ex e μ => some (ex, valsOf (Lv.at { ret := R24, exits := [(0, [(4, .s)])] } [(4, .s), (5, .i .i64)] ex) e, μ)
noncomputable def overdubref05_Encode_L1 (os vs : List AV) (μ : AMem) : Option Res := loopA (overdubref05_Encode_L1_B os) vs μ
theorem overdubref05_Encode_L1_B_eq (s0 : SV) (s4 : SV) (s5 : Int) (μ : AMem) : overdubref05_Encode_L1_B [.s s0] [.s s4, .s (.int .i64 s5)] μ =
  bif decide (s5 ≤ 18) then
  (seqJ
    ((overdubref05_digits [.s (.int .i64 s5), .s s0] μ).bind fun r37 =>
      extrK 0 r37.1 fun t38 =>
      asS t38 fun x39 =>
      extrK 1 r37.1 fun t40 =>
      asB t40 fun b41 =>
      seqJ
      (bif b41 then
        ((lenS (.s s4)).bind fun l42 =>
          bif !(((l42 : Nat) : Int) == 0) then
          ((lenS (.s x39)).bind fun l43 =>
            (lenS (.s s4)).bind fun l44 =>
            some (.normal, [.s (.bool (decide (((l43 : Nat) : Int) < ((l44 : Nat) : Int))))], r37.2))
          else
          (some (.normal, [.s (.bool true)], r37.2)))
        else
        (some (.normal, [.s (.bool false)], r37.2)))
      (fun vs45 m46 =>
        headK vs45 fun a47 r48 =>
        asB a47 fun b49 =>
        bif b49 then
        (some (.normal, [.s x39], m46))
        else
        (some (.normal, [.s s4], m46)))
      (fun vs50 m51 =>
        headK vs50 fun a55 r56 =>
        asS a55 fun x57 =>
        headK r56 fun a58 r59 =>
        asI .i64 a58 fun n60 =>
        some (.ret, [.s x57, .s (.int .i64 n60)], m51))
      (fun d54 vs52 m53 =>
        none))
    (fun vs61 m62 =>
      headK vs61 fun a63 r64 =>
      asS a63 fun x65 =>
      some (.normal, [.s x65, .s (.int .i64 (IntKind.wrap .i64 (s5 + 1)))], m62))
    (fun vs66 m67 =>
      headK vs66 fun a71 r72 =>
      asS a71 fun x73 =>
      headK r72 fun a74 r75 =>
      asI .i64 a74 fun n76 =>
      some (.ret, [.s x73, .s (.int .i64 n76)], m67))
    (fun d70 vs68 m69 =>
      none))
  else
  (some (.exit 0, [.s s4], μ)) := by rw [← G24_40]; kernel_rfl
theorem overdubref05_Encode_L1_eq (os vs : List AV) (μ : AMem) : overdubref05_Encode_L1 os vs μ = (overdubref05_Encode_L1_B os vs μ).bind fun r => match r.1 with | .normal => overdubref05_Encode_L1 os r.2.1 r.2.2 | _ => some r := loopA_eq _ _ _
theorem overdubref05_Encode_eq (p0 : SV) (μ : AMem) : overdubref05_Encode [.s p0] μ =
  seqJ
  ((lenS (.s p0)).bind fun l1 =>
    bif !(decide (((l1 : Nat) : Int) < 1)) then
    ((lenS (.s p0)).bind fun l2 =>
      some (.normal, [.s (.bool (decide (((l2 : Nat) : Int) > 64)))], μ))
    else
    (some (.normal, [.s (.bool true)], μ)))
  (fun vs3 m4 =>
    headK vs3 fun a5 r6 =>
    asB a5 fun b7 =>
    bif b7 then
    (some (.tuple [.s .nilSlice, .s (.int .i64 4)], m4))
    else
    ((overdubref05_May [.s p0] m4).bind fun r8 =>
      asI .i64 r8.1 fun n9 =>
      bif (n9 != 0) then
      (some (.tuple [.s .nilSlice, .s (.int .i64 8)], r8.2))
      else
      (seqJ (overdubref05_Encode_L1 [.s p0] [.s .nilSlice, .s (.int .i64 0)] r8.2)
        (fun _ _ => none)
        (fun vs10 m11 =>
          headK vs10 fun a15 r16 =>
          asS a15 fun x17 =>
          headK r16 fun a18 r19 =>
          asI .i64 a18 fun n20 =>
          some (.tuple [.s x17, .s (.int .i64 n20)], m11))
        (fun d14 vs12 m13 =>
          bif Nat.beq 0 d14 then (headK vs12 fun a21 r22 =>
            asS a21 fun x23 =>
            (overdubref01_Bits_Bytes [.s x23] m13).bind fun r24 =>
            asS r24.1 fun x25 =>
            some (.tuple [.s x25, .s (.int .i64 0)], r24.2)) else (none)))))
  (fun vs26 m27 =>
    headK vs26 fun a31 r32 =>
    asS a31 fun x33 =>
    headK r32 fun a34 r35 =>
    asI .i64 a34 fun n36 =>
    some (.tuple [.s x33, .s (.int .i64 n36)], m27))
  (fun d30 vs28 m29 =>
    none) := by rw [← G24_39, ← G24_41]; kernel_rfl

/-! ### overdub/overdubkeep.Spoil -/
noncomputable def G25 : FuncId → FunA := fun _ _ _ => none
def A25 : Ann := .two (.wide) (.two (.wide) (.join [] [] [] (.loop [(10, .i .i64)] [2, 9] [0] (.two (.wide) (.two (.two (.leaf) (.leaf)) (.two (.join [(2, .s), (9, .i .i64), (10, .i .i64)] [] [] (.two (.wide) (.wide)) .leaf) (.wide))))) .leaf))
def R25 : Slots := []
noncomputable def overdubkeep_Spoil_D : FunA := denF Try.prog G25 Try.f25 A25 R25
noncomputable def overdubkeep_Spoil : FunA := roomF 5 (.int .u8 0) overdubkeep_Spoil_D
noncomputable def overdubkeep_Spoil_L1_B (os vs : List AV) (μ : AMem) : Option Res := joinK [(10, .i .i64)] vs (envO [2, 9] os) fun e => den Try.prog G25 Try.f25.ntmps (cL (cL (cR (cR (bodyOf Try.f25))))) (aL (aL (aR (aR A25)))) { ret := R25, exits := [(0, [])] } Res e μ fun ex e μ => some (ex, valsOf (Lv.at { ret := R25, exits := [(0, [])] } [(10, .i .i64)] ex) e, μ)
noncomputable def overdubkeep_Spoil_L1 (os vs : List AV) (μ : AMem) : Option Res := loopA (overdubkeep_Spoil_L1_B os) vs μ
theorem overdubkeep_Spoil_L1_B_eq (s2 : SV) (s9 : Int) (s10 : Int) (μ : AMem) : overdubkeep_Spoil_L1_B [.s s2, .s (.int .i64 s9)] [.s (.int .i64 s10)] μ =
  bif decide (s10 < s9) then
  (indS 1 (.s s2) s10 fun p10 =>
    loadAt μ p10 fun v11 =>
    asI .u8 v11 fun n12 =>
    indS 1 (.s s2) s10 fun p13 =>
    storeAt 1 μ p13 (.s (.int .u8 (IntKind.wrap .u8 (BitVec.toNat ((BitVec.ofInt (IntKind.bits .u8) n12) ^^^ (BitVec.ofInt (IntKind.bits .u8) 119)))))) fun m14 =>
    some (.normal, [.s (.int .i64 (IntKind.wrap .i64 (s10 + 1)))], m14))
  else
  (some (.exit 0, [], μ)) := by kernel_rfl
theorem overdubkeep_Spoil_L1_eq (os vs : List AV) (μ : AMem) : overdubkeep_Spoil_L1 os vs μ = (overdubkeep_Spoil_L1_B os vs μ).bind fun r => match r.1 with | .normal => overdubkeep_Spoil_L1 os r.2.1 r.2.2 | _ => some r := loopA_eq _ _ _
theorem overdubkeep_Spoil_D_eq (p0 : SV) (μ : AMem) : overdubkeep_Spoil_D [.s p0] μ =
  capA μ (.s p0) fun n1 =>
  asI .i64 n1 fun n2 =>
  cutM 1 μ (.s p0) 0 n2 fun x3 =>
  (lenS x3).bind fun l4 =>
  seqJ (overdubkeep_Spoil_L1 [x3, .s (.int .i64 ((l4 : Nat) : Int))] [.s (.int .i64 0)] μ)
  (fun _ _ => none)
  (fun vs5 m6 =>
    some (.tuple [], m6))
  (fun d9 vs7 m8 =>
    bif Nat.beq 0 d9 then (some (.tuple [], m8)) else (none)) := by kernel_rfl

/-! ### overdub/overdublaw08.FrameEncodes -/
noncomputable def G5 : FuncId → FunA := fun g => bif Nat.beq g 13 then overdublaw08_Tone else bif Nat.beq g 23 then overdubkeep_Samples else bif Nat.beq g 15 then overdubkeep_Copy_int else bif Nat.beq g 16 then frame_Encode else bif Nat.beq g 24 then overdubref05_Encode else bif Nat.beq g 17 then overdubkeep_Same_byte else bif Nat.beq g 25 then overdubkeep_Spoil else bif Nat.beq g 18 then overdubkeep_Same_int else bif Nat.beq g 19 then overdublaw08_wakes else fun _ _ => none
theorem G5_13 : G5 13 = overdublaw08_Tone := by kernel_rfl
theorem G5_23 : G5 23 = overdubkeep_Samples := by kernel_rfl
theorem G5_15 : G5 15 = overdubkeep_Copy_int := by kernel_rfl
theorem G5_16 : G5 16 = frame_Encode := by kernel_rfl
theorem G5_24 : G5 24 = overdubref05_Encode := by kernel_rfl
theorem G5_17 : G5 17 = overdubkeep_Same_byte := by kernel_rfl
theorem G5_25 : G5 25 = overdubkeep_Spoil := by kernel_rfl
theorem G5_18 : G5 18 = overdubkeep_Same_int := by kernel_rfl
theorem G5_19 : G5 19 = overdublaw08_wakes := by kernel_rfl
def A5 : Ann := .two (.leaf) (.join [(0, .s)] [] [] (.two (.leaf) (.two (.leaf) (.leaf))) (.two (.leaf) (.two (.leaf) (.two (.leaf) (.join [(16, .b)] [0, 11, 12] [] (.leaf) (.two (.leaf) (.two (.leaf) (.leaf))))))))
def R5 : Slots := [(10, .b)]
noncomputable def overdublaw08_FrameEncodes : FunA := denF Try.prog G5 Try.f5 A5 R5
theorem overdublaw08_FrameEncodes_eq (p0 : SV) (p1 : Bool) (p2 : Int) (p3 : Int) (p4 : Int) (μ : AMem) : overdublaw08_FrameEncodes [.s p0, .s (.bool p1), .s (.int .i64 p2), .s (.int .i64 p3), .s (.int .i64 p4)] μ =
  seqJ
  (bif ((Int.tmod p2 3) != 0) then
    ((overdublaw08_Tone [.s p0, .s (.int .i64 p4), .s (.int .i64 p2), .s (.int .i64 p3)] μ).bind fun r1 =>
      asS r1.1 fun x2 =>
      some (.normal, [.s x2], r1.2))
    else
    ((overdubkeep_Samples [.s p0, .s (.int .i64 66), .s (.bool p1)] μ).bind fun r3 =>
      asS r3.1 fun x4 =>
      some (.normal, [.s x4], r3.2)))
  (fun vs5 m6 =>
    headK vs5 fun a7 r8 =>
    asS a7 fun x9 =>
    (overdubkeep_Copy_int [.s x9] m6).bind fun r10 =>
    asS r10.1 fun x11 =>
    (frame_Encode [.s x11] r10.2).bind fun r12 =>
    extrK 0 r12.1 fun t13 =>
    asS t13 fun x14 =>
    extrK 1 r12.1 fun t15 =>
    asI .i64 t15 fun n16 =>
    (overdubref05_Encode [.s x9] r12.2).bind fun r17 =>
    extrK 0 r17.1 fun t18 =>
    asS t18 fun x19 =>
    extrK 1 r17.1 fun t20 =>
    asI .i64 t20 fun n21 =>
    seqJ
    (bif (n16 == n21) then
      ((overdubkeep_Same_byte [.s x14, .s x19] r17.2).bind fun r22 =>
        asB r22.1 fun b23 =>
        some (.normal, [.s (.bool b23)], r22.2))
      else
      (some (.normal, [.s (.bool false)], r17.2)))
    (fun vs24 m25 =>
      headK vs24 fun a26 r27 =>
      asB a26 fun b28 =>
      (overdubkeep_Spoil [.s x14] m25).bind fun r29 =>
      bif b28 then
      ((overdubkeep_Same_int [.s x9, .s x11] r29.2).bind fun r30 =>
        asB r30.1 fun b31 =>
        bif b31 then
        ((overdublaw08_wakes [] r30.2).bind fun r32 =>
          asB r32.1 fun b33 =>
          some (.s (.bool b33), r32.2))
        else
        (some (.s (.bool false), r30.2)))
      else
      (some (.s (.bool false), r29.2)))
    (fun vs34 m35 =>
      headK vs34 fun a39 r40 =>
      asB a39 fun b41 =>
      some (.s (.bool b41), m35))
    (fun d38 vs36 m37 =>
      none))
  (fun vs42 m43 =>
    headK vs42 fun a47 r48 =>
    asB a47 fun b49 =>
    some (.s (.bool b49), m43))
  (fun d46 vs44 m45 =>
    none) := by rw [← G5_13, ← G5_23, ← G5_15, ← G5_16, ← G5_24, ← G5_17, ← G5_25, ← G5_18, ← G5_19]; kernel_rfl

/-! ### overdub/overdubkeep.Cut[byte] -/
noncomputable def G26 : FuncId → FunA := fun _ _ _ => none
def A26 : Ann := .two (.leaf) (.two (.leaf) (.leaf))
def R26 : Slots := [(4, .s)]
noncomputable def overdubkeep_Cut_byte : FunA := denF Try.prog G26 Try.f26 A26 R26
theorem overdubkeep_Cut_byte_eq (p0 : SV) (p1 : Int) (μ : AMem) : overdubkeep_Cut_byte [.s p0, .s (.int .i64 p1)] μ =
  (lenS (.s p0)).bind fun l1 =>
  cutS 1 (.s p0) 0 (if p1 < ((l1 : Nat) : Int) then p1 else ((l1 : Nat) : Int)) fun x2 =>
  some (x2, μ) := by kernel_rfl

/-! ### overdub/overdubref01.Of -/
noncomputable def G29 : FuncId → FunA := fun _ _ _ => none
def A29 : Ann := .two (.leaf) (.two (.leaf) (.two (.two (.leaf) (.join [(3, .s)] [] [] (.loop [(3, .s), (8, .i .i64)] [0, 7] [0] (.two (.leaf) (.two (.two (.leaf) (.leaf)) (.two (.join [(0, .s), (3, .s), (7, .i .i64), (8, .i .i64)] [] [] (.two (.leaf) (.two (.leaf) (.join [(0, .s), (3, .s), (7, .i .i64), (8, .i .i64)] [] [] (.loop [(3, .s), (5, .i .i64)] [0, 4, 7, 8] [2] (.two (.two (.leaf) (.two (.leaf) (.leaf))) (.two (.join [(0, .s), (3, .s), (4, .i .i64), (5, .i .i64), (7, .i .i64), (8, .i .i64)] [] [] (.leaf) .leaf) (.leaf)))) .leaf))) .leaf) (.leaf))))) .leaf)) (.two (.leaf) (.leaf))))
def R29 : Slots := [(2, .s)]
noncomputable def overdubref01_Of : FunA := denF Try.prog G29 Try.f29 A29 R29
noncomputable def overdubref01_Of_L2_B (os vs : List AV) (μ : AMem) : Option Res := joinK [(3, .s), (5, .i .i64)] vs (envO [0, 4, 7, 8] os) fun e => den Try.prog G29 Try.f29.ntmps (cL (cL (cR (cR (cL (cL (cR (cR (cL (cL (cR (cL (cR (cR (bodyOf Try.f29))))))))))))))) (aL (aL (aR (aR (aL (aL (aR (aR (aL (aL (aR (aL (aR (aR A29)))))))))))))) { ret := R29, exits := [(2, [(0, .s), (3, .s), (7, .i .i64), (8, .i .i64)]), (1, [(0, .s), (3, .s), (7, .i .i64), (8, .i .i64)]), (0, [(3, .s)])] } Res e μ fun ex e μ => some (ex, valsOf (Lv.at { ret := R29, exits := [(2, [(0, .s), (3, .s), (7, .i .i64), (8, .i .i64)]), (1, [(0, .s), (3, .s), (7, .i .i64), (8, .i .i64)]), (0, [(3, .s)])] } [(3, .s), (5, .i .i64)] ex) e, μ)
noncomputable def overdubref01_Of_L2 (os vs : List AV) (μ : AMem) : Option Res := loopA (overdubref01_Of_L2_B os) vs μ
noncomputable def overdubref01_Of_L1_B (os vs : List AV) (μ : AMem) : Option Res := joinK [(3, .s), (8, .i .i64)] vs (envO [0, 7] os) fun e => den Try.prog G29 Try.f29.ntmps (cL (cL (cR (cL (cR (cR (bodyOf Try.f29))))))) (aL (aL (aR (aL (aR (aR A29)))))) { ret := R29, exits := [(0, [(3, .s)])] } Res e μ fun ex e μ => some (ex, valsOf (Lv.at { ret := R29, exits := [(0, [(3, .s)])] } [(3, .s), (8, .i .i64)] ex) e, μ)
noncomputable def overdubref01_Of_L1 (os vs : List AV) (μ : AMem) : Option Res := loopA (overdubref01_Of_L1_B os) vs μ
theorem overdubref01_Of_L2_B_eq (s0 : SV) (s4 : Int) (s7 : Int) (s8 : Int) (s3 : SV) (s5 : Int) (μ : AMem) : overdubref01_Of_L2_B [.s s0, .s (.int .i64 s4), .s (.int .i64 s7), .s (.int .i64 s8)] [.s s3, .s (.int .i64 s5)] μ =
  bif decide (s5 ≥ 0) then
  (indS 1 (.s s0) s4 fun p33 =>
    loadAt (μ.bump 12) p33 fun v34 =>
    asI .u8 v34 fun n35 =>
    if (IntKind.wrap .u64 s5) < 0 then none else
    (appendA 5 1 1 (μ.next + 10) ((μ.bump 12).set (μ.next + 9) (rowObj [.int .u8 (IntKind.wrap .u8 (BitVec.toNat ((BitVec.ofInt (IntKind.bits .u8) (Int.fdiv n35 (2 ^ (min (Int.toNat (IntKind.wrap .u64 s5)) (IntKind.bits .u8))))) &&& (BitVec.ofInt (IntKind.bits .u8) 1))))] 1 5 (some 1))) (.s s3) (.s (.slice (μ.next + 9) 0 0 1)) fun x36 m37 =>
      asS x36 fun x38 =>
      some (.normal, [.s x38, .s (.int .i64 (IntKind.wrap .i64 (s5 - 1)))], m37)))
  else
  (some (.exit 2, [.s s0, .s s3, .s (.int .i64 s7), .s (.int .i64 s8)], μ)) := by kernel_rfl
theorem overdubref01_Of_L2_eq (os vs : List AV) (μ : AMem) : overdubref01_Of_L2 os vs μ = (overdubref01_Of_L2_B os vs μ).bind fun r => match r.1 with | .normal => overdubref01_Of_L2 os r.2.1 r.2.2 | _ => some r := loopA_eq _ _ _
theorem overdubref01_Of_L1_B_eq (s0 : SV) (s7 : Int) (s3 : SV) (s8 : Int) (μ : AMem) : overdubref01_Of_L1_B [.s s0, .s (.int .i64 s7)] [.s s3, .s (.int .i64 s8)] μ =
  bif decide (s8 < s7) then
  (seqJ (overdubref01_Of_L2 [.s s0, .s (.int .i64 s8), .s (.int .i64 s7), .s (.int .i64 s8)] [.s s3, .s (.int .i64 7)] μ)
    (fun _ _ => none)
    (fun vs13 m14 =>
      headK vs13 fun a18 r19 =>
      asS a18 fun x20 =>
      some (.ret, [.s x20], m14))
    (fun d17 vs15 m16 =>
      bif Nat.beq 2 d17 then (headK vs15 fun a21 r22 =>
        asS a21 fun x23 =>
        headK r22 fun a24 r25 =>
        asS a24 fun x26 =>
        headK r25 fun a27 r28 =>
        asI .i64 a27 fun n29 =>
        headK r28 fun a30 r31 =>
        asI .i64 a30 fun n32 =>
        some (.normal, [.s x26, .s (.int .i64 (IntKind.wrap .i64 (n32 + 1)))], m16)) else (none)))
  else
  (some (.exit 0, [.s s3], μ)) := by kernel_rfl
theorem overdubref01_Of_L1_eq (os vs : List AV) (μ : AMem) : overdubref01_Of_L1 os vs μ = (overdubref01_Of_L1_B os vs μ).bind fun r => match r.1 with | .normal => overdubref01_Of_L1 os r.2.1 r.2.2 | _ => some r := loopA_eq _ _ _
theorem overdubref01_Of_eq (p0 : SV) (μ : AMem) : overdubref01_Of [.s p0] μ =
  (lenS (.s p0)).bind fun l1 =>
  seqJ (overdubref01_Of_L1 [.s p0, .s (.int .i64 ((l1 : Nat) : Int))] [.s .nilSlice, .s (.int .i64 0)] μ)
  (fun _ _ => none)
  (fun vs2 m3 =>
    headK vs2 fun a7 r8 =>
    asS a7 fun x9 =>
    some (.s x9, m3))
  (fun d6 vs4 m5 =>
    bif Nat.beq 0 d6 then (headK vs4 fun a10 r11 =>
      asS a10 fun x12 =>
      some (.s x12, m5)) else (none)) := by kernel_rfl

/-! ### (overdub/overdubref01.Bits).Get -/
noncomputable def G42 : FuncId → FunA := fun _ _ _ => none
def A42 : Ann := .two (.leaf) (.two (.join [(20, .b)] [0, 1] [] (.leaf) (.two (.two (.leaf) (.leaf)) (.leaf))) (.two (.leaf) (.two (.two (.leaf) (.join [(0, .s), (1, .i .i64), (7, .i .i64)] [] [] (.loop [(7, .i .i64), (8, .i .i64)] [0, 1] [0] (.two (.two (.leaf) (.two (.leaf) (.leaf))) (.two (.join [(0, .s), (1, .i .i64), (7, .i .i64), (8, .i .i64)] [] [] (.leaf) .leaf) (.leaf)))) .leaf)) (.two (.ord [0, 1, 2, 3, 4, 5, 6]) (.leaf)))))
def R42 : Slots := [(4, .i .i64), (5, .s), (6, .b)]
noncomputable def overdubref01_Bits_Get : FunA := denF Try.prog G42 Try.f42 A42 R42
noncomputable def overdubref01_Bits_Get_L1_B (os vs : List AV) (μ : AMem) : Option Res := joinK [(7, .i .i64), (8, .i .i64)] vs (envO [0, 1] os) fun e => den Try.prog G42 Try.f42.ntmps (cL (cL (cR (cL (cR (cR (cR (bodyOf Try.f42)))))))) (aL (aL (aR (aL (aR (aR (aR A42))))))) { ret := R42, exits := [(0, [(0, .s), (1, .i .i64), (7, .i .i64)])] } Res e μ fun ex e μ => some (ex, valsOf (Lv.at { ret := R42, exits := [(0, [(0, .s), (1, .i .i64), (7, .i .i64)])] } [(7, .i .i64), (8, .i .i64)] ex) e, μ)
noncomputable def overdubref01_Bits_Get_L1 (os vs : List AV) (μ : AMem) : Option Res := loopA (overdubref01_Bits_Get_L1_B os) vs μ
theorem overdubref01_Bits_Get_L1_B_eq (s0 : SV) (s1 : Int) (s7 : Int) (s8 : Int) (μ : AMem) : overdubref01_Bits_Get_L1_B [.s s0, .s (.int .i64 s1)] [.s (.int .i64 s7), .s (.int .i64 s8)] μ =
  bif decide (s8 < s1) then
  (indS 1 (.s s0) s8 fun p46 =>
    loadAt μ p46 fun v47 =>
    asI .u8 v47 fun n48 =>
    some (.normal, [.s (.int .i64 (IntKind.wrap .i64 ((IntKind.wrap .i64 (2 * s7)) + (IntKind.wrap .i64 n48)))), .s (.int .i64 (IntKind.wrap .i64 (s8 + 1)))], μ))
  else
  (some (.exit 0, [.s s0, .s (.int .i64 s1), .s (.int .i64 s7)], μ)) := by kernel_rfl
theorem overdubref01_Bits_Get_L1_eq (os vs : List AV) (μ : AMem) : overdubref01_Bits_Get_L1 os vs μ = (overdubref01_Bits_Get_L1_B os vs μ).bind fun r => match r.1 with | .normal => overdubref01_Bits_Get_L1 os r.2.1 r.2.2 | _ => some r := loopA_eq _ _ _
theorem overdubref01_Bits_Get_eq (p0 : SV) (p1 : Int) (μ : AMem) : overdubref01_Bits_Get [.s p0, .s (.int .i64 p1)] μ =
  seqJ
  (bif !(decide (p1 < 0)) then
    (bif !(decide (p1 > 62)) then
      ((lenS (.s p0)).bind fun l1 =>
        some (.normal, [.s (.bool (decide (p1 > ((l1 : Nat) : Int))))], μ))
      else
      (some (.normal, [.s (.bool true)], μ)))
    else
    (some (.normal, [.s (.bool true)], μ)))
  (fun vs2 m3 =>
    headK vs2 fun a4 r5 =>
    asB a4 fun b6 =>
    bif b6 then
    (some (.tuple [.s (.int .i64 0), .s p0, .s (.bool false)], m3))
    else
    (seqJ (overdubref01_Bits_Get_L1 [.s p0, .s (.int .i64 p1)] [.s (.int .i64 0), .s (.int .i64 0)] m3)
      (fun _ _ => none)
      (fun vs7 m8 =>
        headK vs7 fun a12 r13 =>
        asI .i64 a12 fun n14 =>
        headK r13 fun a15 r16 =>
        asS a15 fun x17 =>
        headK r16 fun a18 r19 =>
        asB a18 fun b20 =>
        some (.tuple [.s (.int .i64 n14), .s x17, .s (.bool b20)], m8))
      (fun d11 vs9 m10 =>
        bif Nat.beq 0 d11 then (headK vs9 fun a21 r22 =>
          asS a21 fun x23 =>
          headK r22 fun a24 r25 =>
          asI .i64 a24 fun n26 =>
          headK r25 fun a27 r28 =>
          asI .i64 a27 fun n29 =>
          (lenS (.s x23)).bind fun l30 =>
          cutS 1 (.s x23) n26 ((l30 : Nat) : Int) fun x31 =>
          some (.tuple [.s (.int .i64 n29), x31, .s (.bool true)], m10)) else (none))))
  (fun vs32 m33 =>
    headK vs32 fun a37 r38 =>
    asI .i64 a37 fun n39 =>
    headK r38 fun a40 r41 =>
    asS a40 fun x42 =>
    headK r41 fun a43 r44 =>
    asB a43 fun b45 =>
    some (.tuple [.s (.int .i64 n39), .s x42, .s (.bool b45)], m33))
  (fun d36 vs34 m35 =>
    none) := by kernel_rfl

/-! ### overdub/overdubref05.samples -/
noncomputable def G43 : FuncId → FunA := fun g => bif Nat.beq g 42 then overdubref01_Bits_Get else fun _ _ => none
theorem G43_42 : G43 42 = overdubref01_Bits_Get := by kernel_rfl
def A43 : Ann := .two (.leaf) (.two (.leaf) (.two (.two (.leaf) (.join [(0, .s), (7, .s)] [] [] (.loop [(0, .s), (7, .s), (8, .i .i64)] [1] [0] (.two (.two (.leaf) (.two (.leaf) (.leaf))) (.two (.join [(0, .s), (1, .i .i64), (7, .s), (8, .i .i64)] [] [] (.two (.leaf) (.two (.two (.leaf) (.two (.two (.leaf) (.leaf)) (.leaf))) (.two (.leaf) (.leaf)))) .leaf) (.leaf)))) .leaf)) (.two (.leaf) (.leaf))))
def R43 : Slots := [(4, .s), (5, .s), (6, .b)]
noncomputable def overdubref05_samples : FunA := denF Try.prog G43 Try.f43 A43 R43
noncomputable def overdubref05_samples_L1_B (os vs : List AV) (μ : AMem) : Option Res := joinK [(0, .s), (7, .s), (8, .i .i64)] vs (envO [1] os) fun e => den Try.prog G43 Try.f43.ntmps (cL (cL (cR (cL (cR (cR (bodyOf Try.f43))))))) (aL (aL (aR (aL (aR (aR A43)))))) { ret := R43, exits := [(0, [(0, .s), (7, .s)])] } Res e μ fun ex e μ => some (ex, valsOf (Lv.at { ret := R43, exits := [(0, [(0, .s), (7, .s)])] } [(0, .s), (7, .s), (8, .i .i64)] ex) e, μ)
noncomputable def overdubref05_samples_L1 (os vs : List AV) (μ : AMem) : Option Res := loopA (overdubref05_samples_L1_B os) vs μ
theorem overdubref05_samples_L1_B_eq (s1 : Int) (s0 : SV) (s7 : SV) (s8 : Int) (μ : AMem) : overdubref05_samples_L1_B [.s (.int .i64 s1)] [.s s0, .s s7, .s (.int .i64 s8)] μ =
  bif decide (s8 < s1) then
  ((overdubref01_Bits_Get [.s s0, .s (.int .i64 24)] μ).bind fun r21 =>
    extrK 0 r21.1 fun t22 =>
    asI .i64 t22 fun n23 =>
    extrK 1 r21.1 fun t24 =>
    asS t24 fun x25 =>
    extrK 2 r21.1 fun t26 =>
    asB t26 fun b27 =>
    bif (!b27) then
    (some (.ret, [.s .nilSlice, .s s0, .s (.bool false)], r21.2))
    else
    (appendA 3 1 8 (r21.2.next + 4) ((r21.2.bump 6).set (r21.2.next + 3) (rowObj [.int .i64 (IntKind.wrap .i64 (n23 + (-8388608)))] 1 3 (some 1))) (.s s7) (.s (.slice (r21.2.next + 3) 0 0 1)) fun x28 m29 =>
      asS x28 fun x30 =>
      some (.normal, [.s x25, .s x30, .s (.int .i64 (IntKind.wrap .i64 (s8 + 1)))], m29)))
  else
  (some (.exit 0, [.s s0, .s s7], μ)) := by rw [← G43_42]; kernel_rfl
theorem overdubref05_samples_L1_eq (os vs : List AV) (μ : AMem) : overdubref05_samples_L1 os vs μ = (overdubref05_samples_L1_B os vs μ).bind fun r => match r.1 with | .normal => overdubref05_samples_L1 os r.2.1 r.2.2 | _ => some r := loopA_eq _ _ _
theorem overdubref05_samples_eq (p0 : SV) (p1 : Int) (μ : AMem) : overdubref05_samples [.s p0, .s (.int .i64 p1)] μ =
  seqJ (overdubref05_samples_L1 [.s (.int .i64 p1)] [.s p0, .s .nilSlice, .s (.int .i64 0)] μ)
  (fun _ _ => none)
  (fun vs1 m2 =>
    headK vs1 fun a6 r7 =>
    asS a6 fun x8 =>
    headK r7 fun a9 r10 =>
    asS a9 fun x11 =>
    headK r10 fun a12 r13 =>
    asB a12 fun b14 =>
    some (.tuple [.s x8, .s x11, .s (.bool b14)], m2))
  (fun d5 vs3 m4 =>
    bif Nat.beq 0 d5 then (headK vs3 fun a15 r16 =>
      asS a15 fun x17 =>
      headK r16 fun a18 r19 =>
      asS a18 fun x20 =>
      some (.tuple [.s x20, .s x17, .s (.bool true)], m4)) else (none)) := by kernel_rfl

/-! ### (overdub/overdubref01.Bits).TakeOnes -/
noncomputable def G96 : FuncId → FunA := fun _ _ _ => none
def A96 : Ann := .two (.leaf) (.two (.join [(13, .b)] [0, 1] [] (.leaf) (.two (.two (.leaf) (.leaf)) (.leaf))) (.two (.leaf) (.two (.join [(0, .s), (1, .i .i64), (7, .i .i64)] [] [] (.loop [(7, .i .i64)] [0, 1] [0] (.two (.join [(30, .b)] [0, 1, 7] [] (.leaf) (.two (.leaf) (.leaf))) (.join [(0, .s), (1, .i .i64), (7, .i .i64)] [] [] (.leaf) .leaf))) .leaf) (.two (.two (.leaf) (.two (.two (.ord [0, 1, 2, 3, 4, 5, 6]) (.leaf)) (.leaf))) (.two (.two (.leaf) (.two (.two (.leaf) (.leaf)) (.leaf))) (.two (.ord [0, 1, 2, 3, 4, 5, 6, 7]) (.leaf)))))))
def R96 : Slots := [(4, .i .i64), (5, .s), (6, .b)]
noncomputable def overdubref01_Bits_TakeOnes : FunA := denF Try.prog G96 Try.f96 A96 R96
noncomputable def overdubref01_Bits_TakeOnes_L1_B (os vs : List AV) (μ : AMem) : Option Res := joinK [(7, .i .i64)] vs (envO [0, 1] os) fun e => den Try.prog G96 Try.f96.ntmps (cL (cL (cL (cR (cR (cR (bodyOf Try.f96))))))) (aL (aL (aL (aR (aR (aR A96)))))) { ret := R96, exits := [(0, [(0, .s), (1, .i .i64), (7, .i .i64)])] } Res e μ fun ex e μ => some (ex, valsOf (Lv.at { ret := R96, exits := [(0, [(0, .s), (1, .i .i64), (7, .i .i64)])] } [(7, .i .i64)] ex) e, μ)
noncomputable def overdubref01_Bits_TakeOnes_L1 (os vs : List AV) (μ : AMem) : Option Res := loopA (overdubref01_Bits_TakeOnes_L1_B os) vs μ
theorem overdubref01_Bits_TakeOnes_L1_B_eq (s0 : SV) (s1 : Int) (s7 : Int) (μ : AMem) : overdubref01_Bits_TakeOnes_L1_B [.s s0, .s (.int .i64 s1)] [.s (.int .i64 s7)] μ =
  seqJ
  (bif decide (s7 < s1) then
    ((lenS (.s s0)).bind fun l48 =>
      bif decide (s7 < ((l48 : Nat) : Int)) then
      (indS 1 (.s s0) s7 fun p49 =>
        loadAt μ p49 fun v50 =>
        asI .u8 v50 fun n51 =>
        some (.normal, [.s (.bool (n51 == 1))], μ))
      else
      (some (.normal, [.s (.bool false)], μ)))
    else
    (some (.normal, [.s (.bool false)], μ)))
  (fun vs52 m53 =>
    headK vs52 fun a54 r55 =>
    asB a54 fun b56 =>
    bif b56 then
    (some (.normal, [.s (.int .i64 (IntKind.wrap .i64 (s7 + 1)))], m53))
    else
    (some (.exit 0, [.s s0, .s (.int .i64 s1), .s (.int .i64 s7)], m53)))
  (fun vs57 m58 =>
    headK vs57 fun a62 r63 =>
    asI .i64 a62 fun n64 =>
    headK r63 fun a65 r66 =>
    asS a65 fun x67 =>
    headK r66 fun a68 r69 =>
    asB a68 fun b70 =>
    some (.ret, [.s (.int .i64 n64), .s x67, .s (.bool b70)], m58))
  (fun d61 vs59 m60 =>
    none) := by kernel_rfl
theorem overdubref01_Bits_TakeOnes_L1_eq (os vs : List AV) (μ : AMem) : overdubref01_Bits_TakeOnes_L1 os vs μ = (overdubref01_Bits_TakeOnes_L1_B os vs μ).bind fun r => match r.1 with | .normal => overdubref01_Bits_TakeOnes_L1 os r.2.1 r.2.2 | _ => some r := loopA_eq _ _ _
theorem overdubref01_Bits_TakeOnes_eq (p0 : SV) (p1 : Int) (μ : AMem) : overdubref01_Bits_TakeOnes [.s p0, .s (.int .i64 p1)] μ =
  seqJ
  (bif !(decide (p1 < 0)) then
    (some (.normal, [.s (.bool (decide (p1 > 1024)))], μ))
    else
    (some (.normal, [.s (.bool true)], μ)))
  (fun vs1 m2 =>
    headK vs1 fun a3 r4 =>
    asB a3 fun b5 =>
    bif b5 then
    (some (.tuple [.s (.int .i64 0), .s p0, .s (.bool false)], m2))
    else
    (seqJ (overdubref01_Bits_TakeOnes_L1 [.s p0, .s (.int .i64 p1)] [.s (.int .i64 0)] m2)
      (fun _ _ => none)
      (fun vs6 m7 =>
        headK vs6 fun a11 r12 =>
        asI .i64 a11 fun n13 =>
        headK r12 fun a14 r15 =>
        asS a14 fun x16 =>
        headK r15 fun a17 r18 =>
        asB a17 fun b19 =>
        some (.tuple [.s (.int .i64 n13), .s x16, .s (.bool b19)], m7))
      (fun d10 vs8 m9 =>
        bif Nat.beq 0 d10 then (headK vs8 fun a20 r21 =>
          asS a20 fun x22 =>
          headK r21 fun a23 r24 =>
          asI .i64 a23 fun n25 =>
          headK r24 fun a26 r27 =>
          asI .i64 a26 fun n28 =>
          bif (n28 == n25) then
          ((lenS (.s x22)).bind fun l29 =>
            cutS 1 (.s x22) n28 ((l29 : Nat) : Int) fun x30 =>
            some (.tuple [.s (.int .i64 n28), x30, .s (.bool true)], m9))
          else
          ((lenS (.s x22)).bind fun l31 =>
            bif (n28 == ((l31 : Nat) : Int)) then
            (some (.tuple [.s (.int .i64 0), .s x22, .s (.bool false)], m9))
            else
            ((lenS (.s x22)).bind fun l32 =>
              cutS 1 (.s x22) (IntKind.wrap .i64 (n28 + 1)) ((l32 : Nat) : Int) fun x33 =>
              some (.tuple [.s (.int .i64 n28), x33, .s (.bool true)], m9)))) else (none))))
  (fun vs34 m35 =>
    headK vs34 fun a39 r40 =>
    asI .i64 a39 fun n41 =>
    headK r40 fun a42 r43 =>
    asS a42 fun x44 =>
    headK r43 fun a45 r46 =>
    asB a45 fun b47 =>
    some (.tuple [.s (.int .i64 n41), .s x44, .s (.bool b47)], m35))
  (fun d38 vs36 m37 =>
    none) := by kernel_rfl

/-! ### (overdub/overdubref01.Bits).TakeRice -/
noncomputable def G69 : FuncId → FunA := fun g => bif Nat.beq g 95 then overdubref01_may else bif Nat.beq g 96 then overdubref01_Bits_TakeOnes else bif Nat.beq g 42 then overdubref01_Bits_Get else fun _ _ => none
theorem G69_95 : G69 95 = overdubref01_may := by kernel_rfl
theorem G69_96 : G69 96 = overdubref01_Bits_TakeOnes := by kernel_rfl
theorem G69_42 : G69 42 = overdubref01_Bits_Get := by kernel_rfl
def A69 : Ann := .two (.leaf) (.two (.two (.leaf) (.two (.two (.leaf) (.leaf)) (.leaf))) (.two (.leaf) (.two (.two (.leaf) (.two (.two (.leaf) (.leaf)) (.leaf))) (.two (.two (.leaf) (.two (.two (.leaf) (.two (.two (.leaf) (.two (.two (.leaf) (.leaf)) (.leaf))) (.two (.leaf) (.leaf)))) (.leaf))) (.two (.leaf) (.two (.join [(60, .b)] [0, 8, 13] [] (.leaf) (.two (.two (.leaf) (.leaf)) (.leaf))) (.two (.leaf) (.leaf))))))))
def R69 : Slots := [(4, .i .i64), (5, .s), (6, .b)]
noncomputable def overdubref01_Bits_TakeRice : FunA := denF Try.prog G69 Try.f69 A69 R69
theorem overdubref01_Bits_TakeRice_eq (p0 : SV) (p1 : Int) (μ : AMem) : overdubref01_Bits_TakeRice [.s p0, .s (.int .i64 p1)] μ =
  (overdubref01_may [.s (.int .i64 0), .s (.int .i64 p1)] μ).bind fun r1 =>
  asB r1.1 fun b2 =>
  bif (!b2) then
  (some (.tuple [.s (.int .i64 0), .s p0, .s (.bool false)], r1.2))
  else
  ((overdubref01_Bits_TakeOnes [.s p0, .s (.int .i64 24)] r1.2).bind fun r3 =>
    extrK 0 r3.1 fun t4 =>
    asI .i64 t4 fun n5 =>
    extrK 1 r3.1 fun t6 =>
    asS t6 fun x7 =>
    extrK 2 r3.1 fun t8 =>
    asB t8 fun b9 =>
    bif (!b9) then
    (some (.tuple [.s (.int .i64 0), .s p0, .s (.bool false)], r3.2))
    else
    (bif decide (n5 < 24) then
      ((overdubref01_Bits_Get [.s x7, .s (.int .i64 p1)] r3.2).bind fun r10 =>
        extrK 0 r10.1 fun t11 =>
        asI .i64 t11 fun n12 =>
        extrK 1 r10.1 fun t13 =>
        asS t13 fun x14 =>
        extrK 2 r10.1 fun t15 =>
        asB t15 fun b16 =>
        bif (!b16) then
        (some (.tuple [.s (.int .i64 0), .s p0, .s (.bool false)], r10.2))
        else
        (if (IntKind.wrap .u64 p1) < 0 then none else
          (some (.tuple [.s (.int .i64 (IntKind.wrap .i64 ((IntKind.wrap .i64 (n5 * 2 ^ (min (Int.toNat (IntKind.wrap .u64 p1)) (IntKind.bits .i64)))) + n12))), .s x14, .s (.bool true)], r10.2))))
      else
      ((overdubref01_Bits_Get [.s x7, .s (.int .i64 32)] r3.2).bind fun r17 =>
        extrK 0 r17.1 fun t18 =>
        asI .i64 t18 fun n19 =>
        extrK 1 r17.1 fun t20 =>
        asS t20 fun x21 =>
        extrK 2 r17.1 fun t22 =>
        asB t22 fun b23 =>
        seqJ
        (bif !(!b23) then
          (if (IntKind.wrap .u64 p1) < 0 then none else
            (some (.normal, [.s (.bool (decide ((Int.fdiv n19 (2 ^ (min (Int.toNat (IntKind.wrap .u64 p1)) (IntKind.bits .i64)))) < 24)))], r17.2)))
          else
          (some (.normal, [.s (.bool true)], r17.2)))
        (fun vs24 m25 =>
          headK vs24 fun a26 r27 =>
          asB a26 fun b28 =>
          bif b28 then
          (some (.tuple [.s (.int .i64 0), .s p0, .s (.bool false)], m25))
          else
          (some (.tuple [.s (.int .i64 n19), .s x21, .s (.bool true)], m25)))
        (fun vs29 m30 =>
          headK vs29 fun a34 r35 =>
          asI .i64 a34 fun n36 =>
          headK r35 fun a37 r38 =>
          asS a37 fun x39 =>
          headK r38 fun a40 r41 =>
          asB a40 fun b42 =>
          some (.tuple [.s (.int .i64 n36), .s x39, .s (.bool b42)], m30))
        (fun d33 vs31 m32 =>
          none)))) := by rw [← G69_95, ← G69_96, ← G69_42]; kernel_rfl

/-! ### overdub/overdubref01.Zag -/
noncomputable def G70 : FuncId → FunA := fun _ _ _ => none
def A70 : Ann := .two (.leaf) (.two (.join [(8, .b)] [0] [] (.leaf) (.two (.two (.leaf) (.leaf)) (.leaf))) (.two (.two (.leaf) (.two (.two (.leaf) (.leaf)) (.leaf))) (.two (.leaf) (.leaf))))
def R70 : Slots := [(2, .i .i64)]
noncomputable def overdubref01_Zag : FunA := denF Try.prog G70 Try.f70 A70 R70
theorem overdubref01_Zag_eq (p0 : Int) (μ : AMem) : overdubref01_Zag [.s (.int .i64 p0)] μ =
  seqJ
  (bif !(decide (p0 < 0)) then
    (some (.normal, [.s (.bool (decide (p0 ≥ 2199023255552)))], μ))
    else
    (some (.normal, [.s (.bool true)], μ)))
  (fun vs1 m2 =>
    headK vs1 fun a3 r4 =>
    asB a3 fun b5 =>
    bif b5 then
    (some (.s (.int .i64 0), m2))
    else
    (bif ((Int.tmod p0 2) == 1) then
      (some (.s (.int .i64 (IntKind.wrap .i64 (Int.tdiv (IntKind.wrap .i64 (0 - (IntKind.wrap .i64 (p0 + 1)))) 2))), m2))
      else
      (some (.s (.int .i64 (IntKind.wrap .i64 (Int.tdiv p0 2))), m2))))
  (fun vs6 m7 =>
    headK vs6 fun a11 r12 =>
    asI .i64 a11 fun n13 =>
    some (.s (.int .i64 n13), m7))
  (fun d10 vs8 m9 =>
    none) := by kernel_rfl

/-! ### overdub/overdubref05.takeResiduals -/
noncomputable def G44 : FuncId → FunA := fun g => bif Nat.beq g 42 then overdubref01_Bits_Get else bif Nat.beq g 69 then overdubref01_Bits_TakeRice else bif Nat.beq g 70 then overdubref01_Zag else fun _ _ => none
theorem G44_42 : G44 42 = overdubref01_Bits_Get := by kernel_rfl
theorem G44_69 : G44 69 = overdubref01_Bits_TakeRice := by kernel_rfl
theorem G44_70 : G44 70 = overdubref01_Zag := by kernel_rfl
def A44 : Ann := .two (.leaf) (.two (.leaf) (.two (.join [(25, .b)] [0, 1, 7] [] (.leaf) (.two (.two (.leaf) (.leaf)) (.leaf))) (.two (.leaf) (.two (.two (.leaf) (.join [(0, .s), (9, .s)] [] [] (.loop [(0, .s), (9, .s), (10, .i .i64)] [1, 7] [0] (.two (.two (.leaf) (.two (.leaf) (.leaf))) (.two (.join [(0, .s), (1, .i .i64), (7, .i .i64), (9, .s), (10, .i .i64)] [] [] (.two (.leaf) (.two (.two (.leaf) (.two (.two (.leaf) (.leaf)) (.leaf))) (.two (.leaf) (.leaf)))) .leaf) (.leaf)))) .leaf)) (.two (.leaf) (.leaf))))))
def R44 : Slots := [(4, .s), (5, .s), (6, .b)]
noncomputable def overdubref05_takeResiduals : FunA := denF Try.prog G44 Try.f44 A44 R44
noncomputable def overdubref05_takeResiduals_L1_B (os vs : List AV) (μ : AMem) : Option Res := joinK [(0, .s), (9, .s), (10, .i .i64)] vs (envO [1, 7] os) fun e => den Try.prog G44 Try.f44.ntmps (cL (cL (cR (cL (cR (cR (cR (cR (bodyOf Try.f44))))))))) (aL (aL (aR (aL (aR (aR (aR (aR A44)))))))) { ret := R44, exits := [(0, [(0, .s), (9, .s)])] } Res e μ fun ex e μ => some (ex, valsOf (Lv.at { ret := R44, exits := [(0, [(0, .s), (9, .s)])] } [(0, .s), (9, .s), (10, .i .i64)] ex) e, μ)
noncomputable def overdubref05_takeResiduals_L1 (os vs : List AV) (μ : AMem) : Option Res := loopA (overdubref05_takeResiduals_L1_B os) vs μ
theorem overdubref05_takeResiduals_L1_B_eq (s1 : Int) (s7 : Int) (s0 : SV) (s9 : SV) (s10 : Int) (μ : AMem) : overdubref05_takeResiduals_L1_B [.s (.int .i64 s1), .s (.int .i64 s7)] [.s s0, .s s9, .s (.int .i64 s10)] μ =
  bif decide (s10 < s1) then
  ((overdubref01_Bits_TakeRice [.s s0, .s (.int .i64 s7)] μ).bind fun r47 =>
    extrK 0 r47.1 fun t48 =>
    asI .i64 t48 fun n49 =>
    extrK 1 r47.1 fun t50 =>
    asS t50 fun x51 =>
    extrK 2 r47.1 fun t52 =>
    asB t52 fun b53 =>
    bif (!b53) then
    (some (.ret, [.s .nilSlice, .s s0, .s (.bool false)], r47.2))
    else
    ((overdubref01_Zag [.s (.int .i64 n49)] (r47.2.bump 6)).bind fun r54 =>
      asI .i64 r54.1 fun n55 =>
      appendA 3 1 8 (r47.2.next + 4) (r54.2.set (r47.2.next + 3) (rowObj [.int .i64 n55] 1 3 (some 1))) (.s s9) (.s (.slice (r47.2.next + 3) 0 0 1)) fun x56 m57 =>
      asS x56 fun x58 =>
      some (.normal, [.s x51, .s x58, .s (.int .i64 (IntKind.wrap .i64 (s10 + 1)))], m57)))
  else
  (some (.exit 0, [.s s0, .s s9], μ)) := by rw [← G44_69, ← G44_70]; kernel_rfl
theorem overdubref05_takeResiduals_L1_eq (os vs : List AV) (μ : AMem) : overdubref05_takeResiduals_L1 os vs μ = (overdubref05_takeResiduals_L1_B os vs μ).bind fun r => match r.1 with | .normal => overdubref05_takeResiduals_L1 os r.2.1 r.2.2 | _ => some r := loopA_eq _ _ _
theorem overdubref05_takeResiduals_eq (p0 : SV) (p1 : Int) (μ : AMem) : overdubref05_takeResiduals [.s p0, .s (.int .i64 p1)] μ =
  (overdubref01_Bits_Get [.s p0, .s (.int .i64 5)] μ).bind fun r1 =>
  extrK 0 r1.1 fun t2 =>
  asI .i64 t2 fun n3 =>
  extrK 1 r1.1 fun t4 =>
  asS t4 fun x5 =>
  extrK 2 r1.1 fun t6 =>
  asB t6 fun b7 =>
  seqJ
  (bif !(!b7) then
    (some (.normal, [.s (.bool (decide (n3 > 24)))], r1.2))
    else
    (some (.normal, [.s (.bool true)], r1.2)))
  (fun vs8 m9 =>
    headK vs8 fun a10 r11 =>
    asB a10 fun b12 =>
    bif b12 then
    (some (.tuple [.s .nilSlice, .s x5, .s (.bool false)], m9))
    else
    (seqJ (overdubref05_takeResiduals_L1 [.s (.int .i64 p1), .s (.int .i64 n3)] [.s x5, .s .nilSlice, .s (.int .i64 0)] m9)
      (fun _ _ => none)
      (fun vs13 m14 =>
        headK vs13 fun a18 r19 =>
        asS a18 fun x20 =>
        headK r19 fun a21 r22 =>
        asS a21 fun x23 =>
        headK r22 fun a24 r25 =>
        asB a24 fun b26 =>
        some (.tuple [.s x20, .s x23, .s (.bool b26)], m14))
      (fun d17 vs15 m16 =>
        bif Nat.beq 0 d17 then (headK vs15 fun a27 r28 =>
          asS a27 fun x29 =>
          headK r28 fun a30 r31 =>
          asS a30 fun x32 =>
          some (.tuple [.s x32, .s x29, .s (.bool true)], m16)) else (none))))
  (fun vs33 m34 =>
    headK vs33 fun a38 r39 =>
    asS a38 fun x40 =>
    headK r39 fun a41 r42 =>
    asS a41 fun x43 =>
    headK r42 fun a44 r45 =>
    asB a44 fun b46 =>
    some (.tuple [.s x40, .s x43, .s (.bool b46)], m34))
  (fun d37 vs35 m36 =>
    none) := by rw [← G44_42]; kernel_rfl

/-! ### overdub/overdubref05.Restore -/
noncomputable def G45 : FuncId → FunA := fun g => bif Nat.beq g 39 then overdubref05_May else bif Nat.beq g 71 then overdubref05_told else fun _ _ => none
theorem G45_39 : G45 39 = overdubref05_May := by kernel_rfl
theorem G45_71 : G45 71 = overdubref05_told := by kernel_rfl
def A45 : Ann := .two (.leaf) (.two (.two (.leaf) (.two (.two (.leaf) (.leaf)) (.leaf))) (.two (.two (.leaf) (.two (.leaf) (.two (.two (.leaf) (.leaf)) (.leaf)))) (.two (.leaf) (.two (.two (.leaf) (.join [(7, .s)] [] [] (.loop [(7, .s), (22, .i .i64)] [0, 1, 21] [0] (.two (.leaf) (.two (.two (.leaf) (.leaf)) (.two (.join [(0, .s), (1, .s), (7, .s), (21, .i .i64), (22, .i .i64)] [] [] (.two (.leaf) (.two (.join [(36, .b)] [0, 1, 7, 8, 21, 22] [] (.leaf) (.two (.two (.leaf) (.leaf)) (.leaf))) (.two (.ord [0, 1, 2, 4, 5, 6, 7, 3, 8, 9]) (.two (.join [(51, .b)] [0, 1, 7, 9, 21, 22] [] (.leaf) (.two (.two (.leaf) (.leaf)) (.leaf))) (.leaf))))) .leaf) (.leaf))))) .leaf)) (.two (.two (.leaf) (.two (.two (.leaf) (.leaf)) (.leaf))) (.two (.leaf) (.leaf)))))))
def R45 : Slots := [(4, .s), (5, .i .i64)]
noncomputable def overdubref05_Restore : FunA := denF Try.prog G45 Try.f45 A45 R45
noncomputable def overdubref05_Restore_L1_B (os vs : List AV) (μ : AMem) : Option Res := joinK [(7, .s), (22, .i .i64)] vs (envO [0, 1, 21] os) fun e => den Try.prog G45 Try.f45.ntmps (cL (cL (cR (cL (cR (cR (cR (cR (bodyOf Try.f45))))))))) (aL (aL (aR (aL (aR (aR (aR (aR A45)))))))) { ret := R45, exits := [(0, [(7, .s)])] } Res e μ fun ex e μ => some (ex, valsOf (Lv.at { ret := R45, exits := [(0, [(7, .s)])] } [(7, .s), (22, .i .i64)] ex) e, μ)
noncomputable def overdubref05_Restore_L1 (os vs : List AV) (μ : AMem) : Option Res := loopA (overdubref05_Restore_L1_B os) vs μ
theorem overdubref05_Restore_L1_B_eq (s0 : SV) (s1 : SV) (s21 : Int) (s7 : SV) (s22 : Int) (μ : AMem) : overdubref05_Restore_L1_B [.s s0, .s s1, .s (.int .i64 s21)] [.s s7, .s (.int .i64 s22)] μ =
  bif decide (s22 < s21) then
  (seqJ
    (indS 1 (.s s1) s22 fun p23 =>
      loadAt μ p23 fun v24 =>
      asI .i64 v24 fun n25 =>
      bif !(decide (n25 < (-1099511627776))) then
      (indS 1 (.s s1) s22 fun p26 =>
        loadAt μ p26 fun v27 =>
        asI .i64 v27 fun n28 =>
        some (.normal, [.s (.bool (decide (n28 > 1099511627776)))], μ))
      else
      (some (.normal, [.s (.bool true)], μ)))
    (fun vs29 m30 =>
      headK vs29 fun a31 r32 =>
      asB a31 fun b33 =>
      bif b33 then
      (some (.ret, [.s .nilSlice, .s (.int .i64 8)], m30))
      else
      ((lenS (.s s0)).bind fun l34 =>
        indS 1 (.s s1) s22 fun p35 =>
        loadAt m30 p35 fun v36 =>
        asI .i64 v36 fun n37 =>
        (overdubref05_told [.s s7, .s (.int .i64 ((l34 : Nat) : Int))] m30).bind fun r38 =>
        asI .i64 r38.1 fun n39 =>
        checkA ((loadAt r38.2 p35 some) = some (.s (.int .i64 n37)))
        (seqJ
          (bif !(decide ((IntKind.wrap .i64 (n39 + n37)) < (-8388608))) then
            (some (.normal, [.s (.bool (decide ((IntKind.wrap .i64 (n39 + n37)) > 8388607)))], r38.2))
            else
            (some (.normal, [.s (.bool true)], r38.2)))
          (fun vs40 m41 =>
            headK vs40 fun a42 r43 =>
            asB a42 fun b44 =>
            bif b44 then
            (some (.ret, [.s .nilSlice, .s (.int .i64 8)], m41))
            else
            (appendA 3 1 8 (m41.next + 3) ((m41.bump 5).set (m41.next + 2) (rowObj [.int .i64 (IntKind.wrap .i64 (n39 + n37))] 1 3 (some 1))) (.s s7) (.s (.slice (m41.next + 2) 0 0 1)) fun x45 m46 =>
              asS x45 fun x47 =>
              some (.normal, [.s x47, .s (.int .i64 (IntKind.wrap .i64 (s22 + 1)))], m46)))
          (fun vs48 m49 =>
            headK vs48 fun a53 r54 =>
            asS a53 fun x55 =>
            headK r54 fun a56 r57 =>
            asI .i64 a56 fun n58 =>
            some (.ret, [.s x55, .s (.int .i64 n58)], m49))
          (fun d52 vs50 m51 =>
            none))))
    (fun vs59 m60 =>
      headK vs59 fun a64 r65 =>
      asS a64 fun x66 =>
      headK r65 fun a67 r68 =>
      asI .i64 a67 fun n69 =>
      some (.ret, [.s x66, .s (.int .i64 n69)], m60))
    (fun d63 vs61 m62 =>
      none))
  else
  (some (.exit 0, [.s s7], μ)) := by rw [← G45_71]; kernel_rfl
theorem overdubref05_Restore_L1_eq (os vs : List AV) (μ : AMem) : overdubref05_Restore_L1 os vs μ = (overdubref05_Restore_L1_B os vs μ).bind fun r => match r.1 with | .normal => overdubref05_Restore_L1 os r.2.1 r.2.2 | _ => some r := loopA_eq _ _ _
theorem overdubref05_Restore_eq (p0 : SV) (p1 : SV) (μ : AMem) : overdubref05_Restore [.s p0, .s p1] μ =
  (lenS (.s p0)).bind fun l1 =>
  bif decide (((l1 : Nat) : Int) > 4) then
  (some (.tuple [.s .nilSlice, .s (.int .i64 1)], μ))
  else
  ((overdubref05_May [.s p0] μ).bind fun r2 =>
    asI .i64 r2.1 fun n3 =>
    bif (n3 != 0) then
    (some (.tuple [.s .nilSlice, .s (.int .i64 n3)], r2.2))
    else
    (appendA 3 1 8 (r2.2.next + 1) (r2.2.bump 3) (.s .nilSlice) (.s p0) fun x4 m5 =>
      asS x4 fun x6 =>
      (lenS (.s p1)).bind fun l7 =>
      seqJ (overdubref05_Restore_L1 [.s p0, .s p1, .s (.int .i64 ((l7 : Nat) : Int))] [.s x6, .s (.int .i64 0)] m5)
      (fun _ _ => none)
      (fun vs8 m9 =>
        headK vs8 fun a13 r14 =>
        asS a13 fun x15 =>
        headK r14 fun a16 r17 =>
        asI .i64 a16 fun n18 =>
        some (.tuple [.s x15, .s (.int .i64 n18)], m9))
      (fun d12 vs10 m11 =>
        bif Nat.beq 0 d12 then (headK vs10 fun a19 r20 =>
          asS a19 fun x21 =>
          (lenS (.s x21)).bind fun l22 =>
          bif decide (((l22 : Nat) : Int) > 64) then
          (some (.tuple [.s .nilSlice, .s (.int .i64 4)], m11))
          else
          (some (.tuple [.s x21, .s (.int .i64 0)], m11))) else (none)))) := by rw [← G45_39]; kernel_rfl

/-! ### overdub/overdubref05.LpcRestore -/
noncomputable def G46 : FuncId → FunA := fun g => bif Nat.beq g 72 then overdubref05_MayCoefs else bif Nat.beq g 39 then overdubref05_May else bif Nat.beq g 73 then overdubref05_Guess else fun _ _ => none
theorem G46_72 : G46 72 = overdubref05_MayCoefs := by kernel_rfl
theorem G46_39 : G46 39 = overdubref05_May := by kernel_rfl
theorem G46_73 : G46 73 = overdubref05_Guess := by kernel_rfl
def A46 : Ann := .two (.leaf) (.two (.join [(21, .b)] [0, 1, 2] [] (.leaf) (.two (.two (.leaf) (.leaf)) (.leaf))) (.two (.two (.leaf) (.two (.leaf) (.two (.two (.leaf) (.leaf)) (.leaf)))) (.two (.leaf) (.two (.two (.leaf) (.join [(9, .s)] [] [] (.loop [(9, .s), (31, .i .i64)] [1, 2, 30] [0] (.two (.leaf) (.two (.two (.leaf) (.leaf)) (.two (.join [(1, .s), (2, .s), (9, .s), (30, .i .i64), (31, .i .i64)] [] [] (.two (.leaf) (.two (.join [(45, .b)] [1, 2, 9, 10, 30, 31] [] (.leaf) (.two (.two (.leaf) (.leaf)) (.leaf))) (.two (.ord [0, 1, 3, 4, 5, 6, 2, 7, 8]) (.two (.join [(59, .b)] [1, 2, 9, 11, 30, 31] [] (.leaf) (.two (.two (.leaf) (.leaf)) (.leaf))) (.leaf))))) .leaf) (.leaf))))) .leaf)) (.two (.two (.leaf) (.two (.two (.leaf) (.leaf)) (.leaf))) (.two (.leaf) (.leaf)))))))
def R46 : Slots := [(6, .s), (7, .i .i64)]
noncomputable def overdubref05_LpcRestore : FunA := denF Try.prog G46 Try.f46 A46 R46
noncomputable def overdubref05_LpcRestore_L1_B (os vs : List AV) (μ : AMem) : Option Res := joinK [(9, .s), (31, .i .i64)] vs (envO [1, 2, 30] os) fun e => den Try.prog G46 Try.f46.ntmps (cL (cL (cR (cL (cR (cR (cR (cR (bodyOf Try.f46))))))))) (aL (aL (aR (aL (aR (aR (aR (aR A46)))))))) { ret := R46, exits := [(0, [(9, .s)])] } Res e μ fun ex e μ => some (ex, valsOf (Lv.at { ret := R46, exits := [(0, [(9, .s)])] } [(9, .s), (31, .i .i64)] ex) e, μ)
noncomputable def overdubref05_LpcRestore_L1 (os vs : List AV) (μ : AMem) : Option Res := loopA (overdubref05_LpcRestore_L1_B os) vs μ
theorem overdubref05_LpcRestore_L1_B_eq (s1 : SV) (s2 : SV) (s30 : Int) (s9 : SV) (s31 : Int) (μ : AMem) : overdubref05_LpcRestore_L1_B [.s s1, .s s2, .s (.int .i64 s30)] [.s s9, .s (.int .i64 s31)] μ =
  bif decide (s31 < s30) then
  (seqJ
    (indS 1 (.s s1) s31 fun p42 =>
      loadAt μ p42 fun v43 =>
      asI .i64 v43 fun n44 =>
      bif !(decide (n44 < (-1099511627776))) then
      (indS 1 (.s s1) s31 fun p45 =>
        loadAt μ p45 fun v46 =>
        asI .i64 v46 fun n47 =>
        some (.normal, [.s (.bool (decide (n47 > 1099511627776)))], μ))
      else
      (some (.normal, [.s (.bool true)], μ)))
    (fun vs48 m49 =>
      headK vs48 fun a50 r51 =>
      asB a50 fun b52 =>
      bif b52 then
      (some (.ret, [.s .nilSlice, .s (.int .i64 8)], m49))
      else
      (indS 1 (.s s1) s31 fun p53 =>
        loadAt m49 p53 fun v54 =>
        asI .i64 v54 fun n55 =>
        (overdubref05_Guess [.s s9, .s s2] m49).bind fun r56 =>
        asI .i64 r56.1 fun n57 =>
        checkA ((loadAt r56.2 p53 some) = some (.s (.int .i64 n55)))
        (seqJ
          (bif !(decide ((IntKind.wrap .i64 (n57 + n55)) < (-8388608))) then
            (some (.normal, [.s (.bool (decide ((IntKind.wrap .i64 (n57 + n55)) > 8388607)))], r56.2))
            else
            (some (.normal, [.s (.bool true)], r56.2)))
          (fun vs58 m59 =>
            headK vs58 fun a60 r61 =>
            asB a60 fun b62 =>
            bif b62 then
            (some (.ret, [.s .nilSlice, .s (.int .i64 8)], m59))
            else
            (appendA 3 1 8 (m59.next + 3) ((m59.bump 5).set (m59.next + 2) (rowObj [.int .i64 (IntKind.wrap .i64 (n57 + n55))] 1 3 (some 1))) (.s s9) (.s (.slice (m59.next + 2) 0 0 1)) fun x63 m64 =>
              asS x63 fun x65 =>
              some (.normal, [.s x65, .s (.int .i64 (IntKind.wrap .i64 (s31 + 1)))], m64)))
          (fun vs66 m67 =>
            headK vs66 fun a71 r72 =>
            asS a71 fun x73 =>
            headK r72 fun a74 r75 =>
            asI .i64 a74 fun n76 =>
            some (.ret, [.s x73, .s (.int .i64 n76)], m67))
          (fun d70 vs68 m69 =>
            none))))
    (fun vs77 m78 =>
      headK vs77 fun a82 r83 =>
      asS a82 fun x84 =>
      headK r83 fun a85 r86 =>
      asI .i64 a85 fun n87 =>
      some (.ret, [.s x84, .s (.int .i64 n87)], m78))
    (fun d81 vs79 m80 =>
      none))
  else
  (some (.exit 0, [.s s9], μ)) := by rw [← G46_73]; kernel_rfl
theorem overdubref05_LpcRestore_L1_eq (os vs : List AV) (μ : AMem) : overdubref05_LpcRestore_L1 os vs μ = (overdubref05_LpcRestore_L1_B os vs μ).bind fun r => match r.1 with | .normal => overdubref05_LpcRestore_L1 os r.2.1 r.2.2 | _ => some r := loopA_eq _ _ _
theorem overdubref05_LpcRestore_eq (p0 : SV) (p1 : SV) (p2 : SV) (μ : AMem) : overdubref05_LpcRestore [.s p0, .s p1, .s p2] μ =
  seqJ
  ((overdubref05_MayCoefs [.s p2] μ).bind fun r1 =>
    asB r1.1 fun b2 =>
    bif !(!b2) then
    ((lenS (.s p0)).bind fun l3 =>
      (lenS (.s p2)).bind fun l4 =>
      some (.normal, [.s (.bool (((l3 : Nat) : Int) != ((l4 : Nat) : Int)))], r1.2))
    else
    (some (.normal, [.s (.bool true)], r1.2)))
  (fun vs5 m6 =>
    headK vs5 fun a7 r8 =>
    asB a7 fun b9 =>
    bif b9 then
    (some (.tuple [.s .nilSlice, .s (.int .i64 1)], m6))
    else
    ((overdubref05_May [.s p0] m6).bind fun r10 =>
      asI .i64 r10.1 fun n11 =>
      bif (n11 != 0) then
      (some (.tuple [.s .nilSlice, .s (.int .i64 n11)], r10.2))
      else
      (appendA 3 1 8 (r10.2.next + 1) (r10.2.bump 3) (.s .nilSlice) (.s p0) fun x12 m13 =>
        asS x12 fun x14 =>
        (lenS (.s p1)).bind fun l15 =>
        seqJ (overdubref05_LpcRestore_L1 [.s p1, .s p2, .s (.int .i64 ((l15 : Nat) : Int))] [.s x14, .s (.int .i64 0)] m13)
        (fun _ _ => none)
        (fun vs16 m17 =>
          headK vs16 fun a21 r22 =>
          asS a21 fun x23 =>
          headK r22 fun a24 r25 =>
          asI .i64 a24 fun n26 =>
          some (.tuple [.s x23, .s (.int .i64 n26)], m17))
        (fun d20 vs18 m19 =>
          bif Nat.beq 0 d20 then (headK vs18 fun a27 r28 =>
            asS a27 fun x29 =>
            (lenS (.s x29)).bind fun l30 =>
            bif decide (((l30 : Nat) : Int) > 64) then
            (some (.tuple [.s .nilSlice, .s (.int .i64 4)], m19))
            else
            (some (.tuple [.s x29, .s (.int .i64 0)], m19))) else (none)))))
  (fun vs31 m32 =>
    headK vs31 fun a36 r37 =>
    asS a36 fun x38 =>
    headK r37 fun a39 r40 =>
    asI .i64 a39 fun n41 =>
    some (.tuple [.s x38, .s (.int .i64 n41)], m32))
  (fun d35 vs33 m34 =>
    none) := by rw [← G46_72, ← G46_39]; kernel_rfl

/-! ### (overdub/overdubref01.Bits).Rest -/
noncomputable def G47 : FuncId → FunA := fun _ _ _ => none
def A47 : Ann := .two (.leaf) (.two (.two (.leaf) (.join [] [] [] (.loop [(6, .i .i64)] [0, 5] [0] (.two (.leaf) (.two (.two (.leaf) (.leaf)) (.two (.join [(0, .s), (5, .i .i64), (6, .i .i64)] [] [] (.two (.leaf) (.two (.leaf) (.two (.two (.leaf) (.leaf)) (.leaf)))) .leaf) (.leaf))))) .leaf)) (.two (.leaf) (.leaf)))
def R47 : Slots := [(2, .b)]
noncomputable def overdubref01_Bits_Rest : FunA := denF Try.prog G47 Try.f47 A47 R47
noncomputable def overdubref01_Bits_Rest_L1_B (os vs : List AV) (μ : AMem) : Option Res := joinK [(6, .i .i64)] vs (envO [0, 5] os) fun e => den Try.prog G47 Try.f47.ntmps (cL (cL (cR (cL (cR (bodyOf Try.f47)))))) (aL (aL (aR (aL (aR A47))))) { ret := R47, exits := [(0, [])] } Res e μ fun ex e μ => some (ex, valsOf (Lv.at { ret := R47, exits := [(0, [])] } [(6, .i .i64)] ex) e, μ)
noncomputable def overdubref01_Bits_Rest_L1 (os vs : List AV) (μ : AMem) : Option Res := loopA (overdubref01_Bits_Rest_L1_B os) vs μ
theorem overdubref01_Bits_Rest_L1_B_eq (s0 : SV) (s5 : Int) (s6 : Int) (μ : AMem) : overdubref01_Bits_Rest_L1_B [.s s0, .s (.int .i64 s5)] [.s (.int .i64 s6)] μ =
  bif decide (s6 < s5) then
  (indS 1 (.s s0) s6 fun p10 =>
    loadAt μ p10 fun v11 =>
    asI .u8 v11 fun n12 =>
    bif (n12 != 0) then
    (some (.ret, [.s (.bool false)], μ))
    else
    (some (.normal, [.s (.int .i64 (IntKind.wrap .i64 (s6 + 1)))], μ)))
  else
  (some (.exit 0, [], μ)) := by kernel_rfl
theorem overdubref01_Bits_Rest_L1_eq (os vs : List AV) (μ : AMem) : overdubref01_Bits_Rest_L1 os vs μ = (overdubref01_Bits_Rest_L1_B os vs μ).bind fun r => match r.1 with | .normal => overdubref01_Bits_Rest_L1 os r.2.1 r.2.2 | _ => some r := loopA_eq _ _ _
theorem overdubref01_Bits_Rest_eq (p0 : SV) (μ : AMem) : overdubref01_Bits_Rest [.s p0] μ =
  (lenS (.s p0)).bind fun l1 =>
  seqJ (overdubref01_Bits_Rest_L1 [.s p0, .s (.int .i64 ((l1 : Nat) : Int))] [.s (.int .i64 0)] μ)
  (fun _ _ => none)
  (fun vs2 m3 =>
    headK vs2 fun a7 r8 =>
    asB a7 fun b9 =>
    some (.s (.bool b9), m3))
  (fun d6 vs4 m5 =>
    bif Nat.beq 0 d6 then (some (.s (.bool true), m5)) else (none)) := by kernel_rfl

/-! ### overdub/overdubref05.Decode -/
noncomputable def G27 : FuncId → FunA := fun g => bif Nat.beq g 29 then overdubref01_Of else bif Nat.beq g 42 then overdubref01_Bits_Get else bif Nat.beq g 43 then overdubref05_samples else bif Nat.beq g 44 then overdubref05_takeResiduals else bif Nat.beq g 45 then overdubref05_Restore else bif Nat.beq g 46 then overdubref05_LpcRestore else bif Nat.beq g 47 then overdubref01_Bits_Rest else fun _ _ => none
theorem G27_29 : G27 29 = overdubref01_Of := by kernel_rfl
theorem G27_42 : G27 42 = overdubref01_Bits_Get := by kernel_rfl
theorem G27_43 : G27 43 = overdubref05_samples := by kernel_rfl
theorem G27_44 : G27 44 = overdubref05_takeResiduals := by kernel_rfl
theorem G27_45 : G27 45 = overdubref05_Restore := by kernel_rfl
theorem G27_46 : G27 46 = overdubref05_LpcRestore := by kernel_rfl
theorem G27_47 : G27 47 = overdubref01_Bits_Rest := by kernel_rfl
def A27 : Ann := .two (.leaf) (.two (.leaf) (.two (.leaf) (.two (.leaf) (.two (.join [(51, .b)] [4, 5, 7] [] (.leaf) (.two (.two (.leaf) (.leaf)) (.leaf))) (.two (.leaf) (.join [(9, .i .i64)] [4, 5, 7] [] (.join [(4, .s), (5, .i .i64), (7, .i .i64), (9, .i .i64)] [] [] (.two (.leaf) (.two (.leaf) (.two (.leaf) (.two (.leaf) (.two (.leaf) (.two (.leaf) (.leaf))))))) .leaf) (.two (.join [(77, .b)] [4, 5, 7, 9] [] (.leaf) (.two (.two (.leaf) (.leaf)) (.leaf))) (.two (.leaf) (.two (.two (.leaf) (.two (.two (.leaf) (.leaf)) (.leaf))) (.join [(10, .s)] [4, 5, 7, 9] [] (.two (.leaf) (.two (.join [(4, .s), (5, .i .i64), (7, .i .i64), (9, .i .i64), (10, .s)] [] [] (.loop [(10, .s)] [4, 5, 7, 9] [1] (.two (.two (.leaf) (.two (.leaf) (.leaf))) (.join [(4, .s), (5, .i .i64), (7, .i .i64), (9, .i .i64), (10, .s)] [] [] (.leaf) .leaf))) .leaf) (.leaf))) (.two (.leaf) (.two (.two (.leaf) (.join [(4, .s), (5, .i .i64), (7, .i .i64), (9, .i .i64), (10, .s), (11, .s)] [] [] (.loop [(4, .s), (11, .s), (12, .i .i64)] [5, 7, 9, 10] [3] (.two (.join [(105, .b)] [4, 5, 7, 9, 10, 11, 12] [] (.leaf) (.two (.leaf) (.leaf))) (.two (.join [(4, .s), (5, .i .i64), (7, .i .i64), (9, .i .i64), (10, .s), (11, .s), (12, .i .i64)] [] [] (.two (.leaf) (.two (.two (.leaf) (.two (.two (.leaf) (.leaf)) (.leaf))) (.two (.leaf) (.leaf)))) .leaf) (.leaf)))) .leaf)) (.join [(4, .s), (10, .s)] [] [] (.two (.leaf) (.two (.two (.leaf) (.two (.two (.leaf) (.two (.two (.leaf) (.leaf)) (.leaf))) (.two (.leaf) (.two (.leaf) (.join [(10, .s), (19, .i .i64)] [4] [] (.two (.leaf) (.two (.leaf) (.leaf))) (.two (.leaf) (.two (.two (.leaf) (.leaf)) (.leaf)))))))) (.leaf))) (.two (.two (.leaf) (.two (.two (.leaf) (.leaf)) (.leaf))) (.two (.leaf) (.leaf))))))))))))))))
def R27 : Slots := [(2, .s), (3, .i .i64)]
noncomputable def overdubref05_Decode : FunA := denF Try.prog G27 Try.f27 A27 R27
noncomputable def overdubref05_Decode_L2_B (os vs : List AV) (μ : AMem) : Option Res := joinK [(4, .s), (11, .s), (12, .i .i64)] vs (envO [5, 7, 9, 10] os) fun e => den Try.prog G27 Try.f27.ntmps (cL (cL (cR (cL (cR (cR (cR (cR (cR (cR (cR (cR (cR (cR (cR (cR (bodyOf Try.f27))))))))))))))))) (aL (aL (aR (aL (aR (aR (aR (aR (aR (aR (aR (aR (aR (aR (aR (aR A27)))))))))))))))) { ret := R27, exits := [(3, [(4, .s), (5, .i .i64), (7, .i .i64), (9, .i .i64), (10, .s), (11, .s)])] } Res e μ fun ex e μ => some (ex, valsOf (Lv.at { ret := R27, exits := [(3, [(4, .s), (5, .i .i64), (7, .i .i64), (9, .i .i64), (10, .s), (11, .s)])] } [(4, .s), (11, .s), (12, .i .i64)] ex) e, μ)
noncomputable def overdubref05_Decode_L2 (os vs : List AV) (μ : AMem) : Option Res := loopA (overdubref05_Decode_L2_B os) vs μ
noncomputable def overdubref05_Decode_L1_B (os vs : List AV) (μ : AMem) : Option Res := joinK [(10, .s)] vs (envO [4, 5, 7, 9] os) fun e => den Try.prog G27 Try.f27.ntmps (cL (cL (cL (cR (cL (cR (cR (cR (cR (cR (cR (cR (cR (cR (cR (bodyOf Try.f27)))))))))))))))) (aL (aL (aL (aR (aL (aR (aR (aR (aR (aR (aR (aR (aR (aR (aR A27))))))))))))))) { ret := R27, exits := [(1, [(4, .s), (5, .i .i64), (7, .i .i64), (9, .i .i64), (10, .s)])] } Res e μ fun ex e μ => some (ex, valsOf (Lv.at { ret := R27, exits := [(1, [(4, .s), (5, .i .i64), (7, .i .i64), (9, .i .i64), (10, .s)])] } [(10, .s)] ex) e, μ)
noncomputable def overdubref05_Decode_L1 (os vs : List AV) (μ : AMem) : Option Res := loopA (overdubref05_Decode_L1_B os) vs μ
theorem overdubref05_Decode_L2_B_eq (s5 : Int) (s7 : Int) (s9 : Int) (s10 : SV) (s4 : SV) (s11 : SV) (s12 : Int) (μ : AMem) : overdubref05_Decode_L2_B [.s (.int .i64 s5), .s (.int .i64 s7), .s (.int .i64 s9), .s s10] [.s s4, .s s11, .s (.int .i64 s12)] μ =
  seqJ
  (bif decide (s5 > 6) then
    (some (.normal, [.s (.bool (decide (s12 < s9)))], μ))
    else
    (some (.normal, [.s (.bool false)], μ)))
  (fun vs207 m208 =>
    headK vs207 fun a209 r210 =>
    asB a209 fun b211 =>
    bif b211 then
    ((overdubref01_Bits_Get [.s s4, .s (.int .i64 16)] m208).bind fun r212 =>
      extrK 0 r212.1 fun t213 =>
      asI .i64 t213 fun n214 =>
      extrK 1 r212.1 fun t215 =>
      asS t215 fun x216 =>
      extrK 2 r212.1 fun t217 =>
      asB t217 fun b218 =>
      bif (!b218) then
      (some (.ret, [.s .nilSlice, .s (.int .i64 2)], r212.2))
      else
      (appendA 3 1 8 (r212.2.next + 4) ((r212.2.bump 6).set (r212.2.next + 3) (rowObj [.int .i64 (IntKind.wrap .i64 (n214 - 32768))] 1 3 (some 1))) (.s s11) (.s (.slice (r212.2.next + 3) 0 0 1)) fun x219 m220 =>
        asS x219 fun x221 =>
        some (.normal, [.s x216, .s x221, .s (.int .i64 (IntKind.wrap .i64 (s12 + 1)))], m220)))
    else
    (some (.exit 3, [.s s4, .s (.int .i64 s5), .s (.int .i64 s7), .s (.int .i64 s9), .s s10, .s s11], m208)))
  (fun vs222 m223 =>
    headK vs222 fun a227 r228 =>
    asS a227 fun x229 =>
    headK r228 fun a230 r231 =>
    asI .i64 a230 fun n232 =>
    some (.ret, [.s x229, .s (.int .i64 n232)], m223))
  (fun d226 vs224 m225 =>
    none) := by rw [← G27_42]; kernel_rfl
theorem overdubref05_Decode_L2_eq (os vs : List AV) (μ : AMem) : overdubref05_Decode_L2 os vs μ = (overdubref05_Decode_L2_B os vs μ).bind fun r => match r.1 with | .normal => overdubref05_Decode_L2 os r.2.1 r.2.2 | _ => some r := loopA_eq _ _ _
theorem overdubref05_Decode_L1_B_eq (s4 : SV) (s5 : Int) (s7 : Int) (s9 : Int) (s10 : SV) (μ : AMem) : overdubref05_Decode_L1_B [.s s4, .s (.int .i64 s5), .s (.int .i64 s7), .s (.int .i64 s9)] [.s s10] μ =
  (lenS (.s s10)).bind fun l200 =>
  bif decide (((l200 : Nat) : Int) < s7) then
  (indS 1 (.s s10) 0 fun p201 =>
    loadAt (μ.bump 7) p201 fun v202 =>
    asI .i64 v202 fun n203 =>
    appendA 3 1 8 (μ.next + 5) ((μ.bump 7).set (μ.next + 4) (rowObj [.int .i64 n203] 1 3 (some 1))) (.s s10) (.s (.slice (μ.next + 4) 0 0 1)) fun x204 m205 =>
    asS x204 fun x206 =>
    some (.normal, [.s x206], m205))
  else
  (some (.exit 1, [.s s4, .s (.int .i64 s5), .s (.int .i64 s7), .s (.int .i64 s9), .s s10], μ)) := by kernel_rfl
theorem overdubref05_Decode_L1_eq (os vs : List AV) (μ : AMem) : overdubref05_Decode_L1 os vs μ = (overdubref05_Decode_L1_B os vs μ).bind fun r => match r.1 with | .normal => overdubref05_Decode_L1 os r.2.1 r.2.2 | _ => some r := loopA_eq _ _ _
theorem overdubref05_Decode_eq (p0 : SV) (μ : AMem) : overdubref05_Decode [.s p0] μ =
  (overdubref01_Of [.s p0] μ).bind fun r1 =>
  asS r1.1 fun x2 =>
  (overdubref01_Bits_Get [.s x2, .s (.int .i64 8)] r1.2).bind fun r3 =>
  extrK 0 r3.1 fun t4 =>
  asI .i64 t4 fun n5 =>
  extrK 1 r3.1 fun t6 =>
  asS t6 fun x7 =>
  extrK 2 r3.1 fun t8 =>
  asB t8 fun b9 =>
  (overdubref01_Bits_Get [.s x7, .s (.int .i64 8)] r3.2).bind fun r10 =>
  extrK 0 r10.1 fun t11 =>
  asI .i64 t11 fun n12 =>
  extrK 1 r10.1 fun t13 =>
  asS t13 fun x14 =>
  extrK 2 r10.1 fun t15 =>
  asB t15 fun b16 =>
  seqJ
  (bif !(!b9) then
    (bif !(!b16) then
      (bif !(decide (n5 > 18)) then
        (bif !(decide (n12 < 1)) then
          (some (.normal, [.s (.bool (decide (n12 > 64)))], r10.2))
          else
          (some (.normal, [.s (.bool true)], r10.2)))
        else
        (some (.normal, [.s (.bool true)], r10.2)))
      else
      (some (.normal, [.s (.bool true)], r10.2)))
    else
    (some (.normal, [.s (.bool true)], r10.2)))
  (fun vs17 m18 =>
    headK vs17 fun a19 r20 =>
    asB a19 fun b21 =>
    bif b21 then
    (some (.tuple [.s .nilSlice, .s (.int .i64 2)], m18))
    else
    (seqJ
      (bif (n5 == 0) then
        (some (.normal, [.s (.int .i64 1)], m18))
        else
        (bif (n5 == 1) then
          (some (.normal, [.s (.int .i64 n12)], m18))
          else
          (bif decide (n5 ≤ 6) then
            (some (.normal, [.s (.int .i64 (IntKind.wrap .i64 (n5 - 2)))], m18))
            else
            (some (.normal, [.s (.int .i64 (IntKind.wrap .i64 (n5 - 6)))], m18)))))
      (fun vs22 m23 =>
        headK vs22 fun a24 r25 =>
        asI .i64 a24 fun n26 =>
        seqJ
        (bif !(decide (n26 > n12)) then
          (bif decide (n5 > 6) then
            (some (.normal, [.s (.bool (decide (n26 ≥ n12)))], m23))
            else
            (some (.normal, [.s (.bool false)], m23)))
          else
          (some (.normal, [.s (.bool true)], m23)))
        (fun vs27 m28 =>
          headK vs27 fun a29 r30 =>
          asB a29 fun b31 =>
          bif b31 then
          (some (.tuple [.s .nilSlice, .s (.int .i64 2)], m28))
          else
          ((overdubref05_samples [.s x14, .s (.int .i64 n26)] m28).bind fun r32 =>
            extrK 0 r32.1 fun t33 =>
            asS t33 fun x34 =>
            extrK 1 r32.1 fun t35 =>
            asS t35 fun x36 =>
            extrK 2 r32.1 fun t37 =>
            asB t37 fun b38 =>
            bif (!b38) then
            (some (.tuple [.s .nilSlice, .s (.int .i64 2)], r32.2))
            else
            (seqJ
              (bif (n5 == 0) then
                (seqJ (overdubref05_Decode_L1 [.s x36, .s (.int .i64 n5), .s (.int .i64 n12), .s (.int .i64 n26)] [.s x34] r32.2)
                  (fun _ _ => none)
                  (fun vs39 m40 =>
                    headK vs39 fun a44 r45 =>
                    asS a44 fun x46 =>
                    headK r45 fun a47 r48 =>
                    asI .i64 a47 fun n49 =>
                    some (.ret, [.s x46, .s (.int .i64 n49)], m40))
                  (fun d43 vs41 m42 =>
                    bif Nat.beq 1 d43 then (headK vs41 fun a50 r51 =>
                      asS a50 fun x52 =>
                      headK r51 fun a53 r54 =>
                      asI .i64 a53 fun n55 =>
                      headK r54 fun a56 r57 =>
                      asI .i64 a56 fun n58 =>
                      headK r57 fun a59 r60 =>
                      asI .i64 a59 fun n61 =>
                      headK r60 fun a62 r63 =>
                      asS a62 fun x64 =>
                      some (.normal, [.s x64], m42)) else (none)))
                else
                (some (.normal, [.s x34], r32.2)))
              (fun vs65 m66 =>
                headK vs65 fun a67 r68 =>
                asS a67 fun x69 =>
                seqJ (overdubref05_Decode_L2 [.s (.int .i64 n5), .s (.int .i64 n12), .s (.int .i64 n26), .s x69] [.s x36, .s .nilSlice, .s (.int .i64 0)] m66)
                (fun _ _ => none)
                (fun vs70 m71 =>
                  headK vs70 fun a75 r76 =>
                  asS a75 fun x77 =>
                  headK r76 fun a78 r79 =>
                  asI .i64 a78 fun n80 =>
                  some (.tuple [.s x77, .s (.int .i64 n80)], m71))
                (fun d74 vs72 m73 =>
                  bif Nat.beq 3 d74 then (headK vs72 fun a81 r82 =>
                    asS a81 fun x83 =>
                    headK r82 fun a84 r85 =>
                    asI .i64 a84 fun n86 =>
                    headK r85 fun a87 r88 =>
                    asI .i64 a87 fun n89 =>
                    headK r88 fun a90 r91 =>
                    asI .i64 a90 fun n92 =>
                    headK r91 fun a93 r94 =>
                    asS a93 fun x95 =>
                    headK r94 fun a96 r97 =>
                    asS a96 fun x98 =>
                    seqJ
                    (bif decide (n86 > 1) then
                      ((overdubref05_takeResiduals [.s x83, .s (.int .i64 (IntKind.wrap .i64 (n89 - n92)))] m73).bind fun r99 =>
                        extrK 0 r99.1 fun t100 =>
                        asS t100 fun x101 =>
                        extrK 1 r99.1 fun t102 =>
                        asS t102 fun x103 =>
                        extrK 2 r99.1 fun t104 =>
                        asB t104 fun b105 =>
                        bif (!b105) then
                        (some (.ret, [.s .nilSlice, .s (.int .i64 2)], r99.2))
                        else
                        (seqJ
                          (bif decide (n86 ≤ 6) then
                            ((overdubref05_Restore [.s x95, .s x101] r99.2).bind fun r106 =>
                              extrK 0 r106.1 fun t107 =>
                              asS t107 fun x108 =>
                              extrK 1 r106.1 fun t109 =>
                              asI .i64 t109 fun n110 =>
                              some (.normal, [.s x108, .s (.int .i64 n110)], r106.2))
                            else
                            ((overdubref05_LpcRestore [.s x95, .s x101, .s x98] r99.2).bind fun r111 =>
                              extrK 0 r111.1 fun t112 =>
                              asS t112 fun x113 =>
                              extrK 1 r111.1 fun t114 =>
                              asI .i64 t114 fun n115 =>
                              some (.normal, [.s x113, .s (.int .i64 n115)], r111.2)))
                          (fun vs116 m117 =>
                            headK vs116 fun a118 r119 =>
                            asS a118 fun x120 =>
                            headK r119 fun a121 r122 =>
                            asI .i64 a121 fun n123 =>
                            bif (n123 != 0) then
                            (some (.ret, [.s .nilSlice, .s (.int .i64 2)], m117))
                            else
                            (some (.normal, [.s x103, .s x120], m117)))
                          (fun vs124 m125 =>
                            headK vs124 fun a129 r130 =>
                            asS a129 fun x131 =>
                            headK r130 fun a132 r133 =>
                            asI .i64 a132 fun n134 =>
                            some (.ret, [.s x131, .s (.int .i64 n134)], m125))
                          (fun d128 vs126 m127 =>
                            none)))
                      else
                      (some (.normal, [.s x83, .s x95], m73)))
                    (fun vs135 m136 =>
                      headK vs135 fun a137 r138 =>
                      asS a137 fun x139 =>
                      headK r138 fun a140 r141 =>
                      asS a140 fun x142 =>
                      (overdubref01_Bits_Rest [.s x139] m136).bind fun r143 =>
                      asB r143.1 fun b144 =>
                      bif (!b144) then
                      (some (.tuple [.s .nilSlice, .s (.int .i64 2)], r143.2))
                      else
                      (some (.tuple [.s x142, .s (.int .i64 0)], r143.2)))
                    (fun vs145 m146 =>
                      headK vs145 fun a150 r151 =>
                      asS a150 fun x152 =>
                      headK r151 fun a153 r154 =>
                      asI .i64 a153 fun n155 =>
                      some (.tuple [.s x152, .s (.int .i64 n155)], m146))
                    (fun d149 vs147 m148 =>
                      none)) else (none)))
              (fun vs156 m157 =>
                headK vs156 fun a161 r162 =>
                asS a161 fun x163 =>
                headK r162 fun a164 r165 =>
                asI .i64 a164 fun n166 =>
                some (.tuple [.s x163, .s (.int .i64 n166)], m157))
              (fun d160 vs158 m159 =>
                none))))
        (fun vs167 m168 =>
          headK vs167 fun a172 r173 =>
          asS a172 fun x174 =>
          headK r173 fun a175 r176 =>
          asI .i64 a175 fun n177 =>
          some (.tuple [.s x174, .s (.int .i64 n177)], m168))
        (fun d171 vs169 m170 =>
          none))
      (fun vs178 m179 =>
        headK vs178 fun a183 r184 =>
        asS a183 fun x185 =>
        headK r184 fun a186 r187 =>
        asI .i64 a186 fun n188 =>
        some (.tuple [.s x185, .s (.int .i64 n188)], m179))
      (fun d182 vs180 m181 =>
        none)))
  (fun vs189 m190 =>
    headK vs189 fun a194 r195 =>
    asS a194 fun x196 =>
    headK r195 fun a197 r198 =>
    asI .i64 a197 fun n199 =>
    some (.tuple [.s x196, .s (.int .i64 n199)], m190))
  (fun d193 vs191 m192 =>
    none) := by rw [← G27_29, ← G27_42, ← G27_43, ← G27_44, ← G27_45, ← G27_46, ← G27_47]; kernel_rfl

/-! ### overdub/overdublaw08.FrameDecodes -/
noncomputable def G6 : FuncId → FunA := fun g => bif Nat.beq g 26 then overdubkeep_Cut_byte else bif Nat.beq g 21 then frame_Decode else bif Nat.beq g 27 then overdubref05_Decode else bif Nat.beq g 18 then overdubkeep_Same_int else bif Nat.beq g 22 then frame_Kind else bif Nat.beq g 19 then overdublaw08_wakes else fun _ _ => none
theorem G6_26 : G6 26 = overdubkeep_Cut_byte := by kernel_rfl
theorem G6_21 : G6 21 = frame_Decode := by kernel_rfl
theorem G6_27 : G6 27 = overdubref05_Decode := by kernel_rfl
theorem G6_18 : G6 18 = overdubkeep_Same_int := by kernel_rfl
theorem G6_22 : G6 22 = frame_Kind := by kernel_rfl
theorem G6_19 : G6 19 = overdublaw08_wakes := by kernel_rfl
def A6 : Ann := .two (.leaf) (.two (.leaf) (.two (.leaf) (.two (.leaf) (.two (.leaf) (.join [(7, .i .i64)] [0, 3, 4, 5, 6] [] (.two (.leaf) (.two (.leaf) (.leaf))) (.two (.leaf) (.leaf)))))))
def R6 : Slots := [(2, .b)]
noncomputable def overdublaw08_FrameDecodes : FunA := denF Try.prog G6 Try.f6 A6 R6
theorem overdublaw08_FrameDecodes_eq (p0 : SV) (μ : AMem) : overdublaw08_FrameDecodes [.s p0] μ =
  (overdubkeep_Cut_byte [.s p0, .s (.int .i64 260)] μ).bind fun r1 =>
  asS r1.1 fun x2 =>
  (frame_Decode [.s x2] r1.2).bind fun r3 =>
  extrK 0 r3.1 fun t4 =>
  asS t4 fun x5 =>
  extrK 1 r3.1 fun t6 =>
  asI .i64 t6 fun n7 =>
  (overdubref05_Decode [.s x2] r3.2).bind fun r8 =>
  extrK 0 r8.1 fun t9 =>
  asS t9 fun x10 =>
  extrK 1 r8.1 fun t11 =>
  asI .i64 t11 fun n12 =>
  seqJ
  (bif (n12 == 0) then
    (indS 1 (.s x2) 0 fun p13 =>
      loadAt r8.2 p13 fun v14 =>
      asI .u8 v14 fun n15 =>
      some (.normal, [.s (.int .i64 (IntKind.wrap .i64 n15))], r8.2))
    else
    (some (.normal, [.s (.int .i64 (-1))], r8.2)))
  (fun vs16 m17 =>
    headK vs16 fun a18 r19 =>
    asI .i64 a18 fun n20 =>
    bif (n7 == n12) then
    ((overdubkeep_Same_int [.s x5, .s x10] m17).bind fun r21 =>
      asB r21.1 fun b22 =>
      bif b22 then
      ((frame_Kind [.s x2] r21.2).bind fun r23 =>
        asI .i64 r23.1 fun n24 =>
        bif (n24 == n20) then
        ((overdublaw08_wakes [] r23.2).bind fun r25 =>
          asB r25.1 fun b26 =>
          some (.s (.bool b26), r25.2))
        else
        (some (.s (.bool false), r23.2)))
      else
      (some (.s (.bool false), r21.2)))
    else
    (some (.s (.bool false), m17)))
  (fun vs27 m28 =>
    headK vs27 fun a32 r33 =>
    asB a32 fun b34 =>
    some (.s (.bool b34), m28))
  (fun d31 vs29 m30 =>
    none) := by rw [← G6_26, ← G6_21, ← G6_27, ← G6_18, ← G6_22, ← G6_19]; kernel_rfl

/-! ### overdub/overdubref05.As -/
noncomputable def G28 : FuncId → FunA := fun g => bif Nat.beq g 40 then overdubref05_digits else bif Nat.beq g 41 then overdubref01_Bits_Bytes else fun _ _ => none
theorem G28_40 : G28 40 = overdubref05_digits := by kernel_rfl
theorem G28_41 : G28 41 = overdubref01_Bits_Bytes := by kernel_rfl
def A28 : Ann := .two (.leaf) (.two (.leaf) (.two (.two (.leaf) (.two (.two (.leaf) (.leaf)) (.leaf))) (.two (.leaf) (.leaf))))
def R28 : Slots := [(4, .s), (5, .b)]
noncomputable def overdubref05_As : FunA := denF Try.prog G28 Try.f28 A28 R28
theorem overdubref05_As_eq (p0 : Int) (p1 : SV) (μ : AMem) : overdubref05_As [.s (.int .i64 p0), .s p1] μ =
  (overdubref05_digits [.s (.int .i64 p0), .s p1] μ).bind fun r1 =>
  extrK 0 r1.1 fun t2 =>
  asS t2 fun x3 =>
  extrK 1 r1.1 fun t4 =>
  asB t4 fun b5 =>
  bif (!b5) then
  (some (.tuple [.s .nilSlice, .s (.bool false)], r1.2))
  else
  ((overdubref01_Bits_Bytes [.s x3] r1.2).bind fun r6 =>
    asS r6.1 fun x7 =>
    some (.tuple [.s x7, .s (.bool true)], r6.2)) := by rw [← G28_40, ← G28_41]; kernel_rfl

/-! ### overdub/overdublaw08.FrameSpoilt -/
noncomputable def G7 : FuncId → FunA := fun g => bif Nat.beq g 14 then overdubkeep_Within else bif Nat.beq g 13 then overdublaw08_Tone else bif Nat.beq g 24 then overdubref05_Encode else bif Nat.beq g 28 then overdubref05_As else bif Nat.beq g 19 then overdublaw08_wakes else bif Nat.beq g 6 then overdublaw08_FrameDecodes else fun _ _ => none
theorem G7_14 : G7 14 = overdubkeep_Within := by kernel_rfl
theorem G7_13 : G7 13 = overdublaw08_Tone := by kernel_rfl
theorem G7_24 : G7 24 = overdubref05_Encode := by kernel_rfl
theorem G7_28 : G7 28 = overdubref05_As := by kernel_rfl
theorem G7_19 : G7 19 = overdublaw08_wakes := by kernel_rfl
theorem G7_6 : G7 6 = overdublaw08_FrameDecodes := by kernel_rfl
def A7 : Ann := .two (.leaf) (.two (.leaf) (.two (.leaf) (.join [(15, .s)] [4, 5, 6] [] (.two (.leaf) (.join [(43, .b)] [4, 5, 6, 15, 17] [] (.leaf) (.two (.leaf) (.leaf)))) (.two (.two (.leaf) (.two (.two (.leaf) (.leaf)) (.leaf))) (.join [(15, .s)] [] [] (.two (.leaf) (.join [(15, .s)] [] [] (.two (.leaf) (.two (.leaf) (.two (.leaf) (.two (.leaf) (.two (.leaf) (.two (.leaf) (.leaf))))))) .leaf)) (.two (.leaf) (.leaf)))))))
def R7 : Slots := [(14, .b)]
noncomputable def overdublaw08_FrameSpoilt : FunA := denF Try.prog G7 Try.f7 A7 R7
theorem overdublaw08_FrameSpoilt_eq (p0 : SV) (p1 : Int) (p2 : Int) (p3 : Int) (p4 : Int) (p5 : Int) (p6 : Int) (μ : AMem) : overdublaw08_FrameSpoilt [.s p0, .s (.int .i64 p1), .s (.int .i64 p2), .s (.int .i64 p3), .s (.int .i64 p4), .s (.int .u8 p5), .s (.int .i64 p6)] μ =
  (overdubkeep_Within [.s (.int .i64 p2), .s (.int .i64 64)] μ).bind fun r1 =>
  asI .i64 r1.1 fun n2 =>
  (overdublaw08_Tone [.s p0, .s (.int .i64 (IntKind.wrap .i64 (1 + n2))), .s (.int .i64 p1), .s (.int .i64 p3)] r1.2).bind fun r3 =>
  asS r3.1 fun x4 =>
  (overdubref05_Encode [.s x4] r3.2).bind fun r5 =>
  extrK 0 r5.1 fun t6 =>
  asS t6 fun x7 =>
  extrK 1 r5.1 fun t8 =>
  asI .i64 t8 fun n9 =>
  seqJ
  ((overdubkeep_Within [.s (.int .i64 p1), .s (.int .i64 19)] r5.2).bind fun r10 =>
    asI .i64 r10.1 fun n11 =>
    (overdubref05_As [.s (.int .i64 n11), .s x4] r10.2).bind fun r12 =>
    extrK 0 r12.1 fun t13 =>
    asS t13 fun x14 =>
    extrK 1 r12.1 fun t15 =>
    asB t15 fun b16 =>
    seqJ
    (bif b16 then
      (some (.normal, [.s (.bool ((Int.tmod p3 2) == 0))], r12.2))
      else
      (some (.normal, [.s (.bool false)], r12.2)))
    (fun vs17 m18 =>
      headK vs17 fun a19 r20 =>
      asB a19 fun b21 =>
      bif b21 then
      (some (.normal, [.s x14], m18))
      else
      (some (.normal, [.s x7], m18)))
    (fun vs22 m23 =>
      headK vs22 fun a27 r28 =>
      asB a27 fun b29 =>
      some (.ret, [.s (.bool b29)], m23))
    (fun d26 vs24 m25 =>
      none))
  (fun vs30 m31 =>
    headK vs30 fun a32 r33 =>
    asS a32 fun x34 =>
    (lenS (.s x34)).bind fun l35 =>
    bif (((l35 : Nat) : Int) == 0) then
    ((overdublaw08_wakes [] m31).bind fun r36 =>
      asB r36.1 fun b37 =>
      some (.s (.bool b37), r36.2))
    else
    (seqJ
      ((overdubkeep_Within [.s (.int .i64 p6), .s (.int .i64 4)] m31).bind fun r38 =>
        asI .i64 r38.1 fun n39 =>
        bif (n39 == 0) then
        ((lenS (.s x34)).bind fun l40 =>
          (overdubkeep_Within [.s (.int .i64 p4), .s (.int .i64 ((l40 : Nat) : Int))] r38.2).bind fun r41 =>
          asI .i64 r41.1 fun n42 =>
          indS 1 (.s x34) n42 fun p43 =>
          loadAt r41.2 p43 fun v44 =>
          asI .u8 v44 fun n45 =>
          indS 1 (.s x34) n42 fun p46 =>
          storeAt 1 r41.2 p46 (.s (.int .u8 (IntKind.wrap .u8 (BitVec.toNat ((BitVec.ofInt (IntKind.bits .u8) n45) ^^^ (BitVec.ofInt (IntKind.bits .u8) p5)))))) fun m47 =>
          some (.normal, [.s x34], m47))
        else
        (bif (n39 == 1) then
          ((lenS (.s x34)).bind fun l48 =>
            (overdubkeep_Within [.s (.int .i64 p4), .s (.int .i64 ((l48 : Nat) : Int))] r38.2).bind fun r49 =>
            asI .i64 r49.1 fun n50 =>
            cutS 1 (.s x34) 0 n50 fun x51 =>
            some (.normal, [x51], r49.2))
          else
          (bif (n39 == 2) then
            (appendA 5 1 1 (r38.2.next + 3) ((r38.2.bump 5).set (r38.2.next + 2) (rowObj [.int .u8 0, .int .u8 0, .int .u8 p5] 1 5 (some 3))) (.s x34) (.s (.slice (r38.2.next + 2) 0 0 3)) fun x52 m53 =>
              asS x52 fun x54 =>
              some (.normal, [.s x54], m53))
            else
            (some (.normal, [.s x34], r38.2)))))
      (fun vs55 m56 =>
        headK vs55 fun a57 r58 =>
        asS a57 fun x59 =>
        (overdublaw08_FrameDecodes [.s x59] m56).bind fun r60 =>
        asB r60.1 fun b61 =>
        bif b61 then
        ((overdublaw08_wakes [] r60.2).bind fun r62 =>
          asB r62.1 fun b63 =>
          some (.s (.bool b63), r62.2))
        else
        (some (.s (.bool false), r60.2)))
      (fun vs64 m65 =>
        headK vs64 fun a69 r70 =>
        asB a69 fun b71 =>
        some (.s (.bool b71), m65))
      (fun d68 vs66 m67 =>
        none)))
  (fun vs72 m73 =>
    headK vs72 fun a77 r78 =>
    asB a77 fun b79 =>
    some (.s (.bool b79), m73))
  (fun d76 vs74 m75 =>
    none) := by rw [← G7_14, ← G7_13, ← G7_24, ← G7_28, ← G7_19, ← G7_6]; kernel_rfl

/-! ### overdub/overdublaw08.FramePlain -/
noncomputable def G8 : FuncId → FunA := fun g => bif Nat.beq g 14 then overdubkeep_Within else bif Nat.beq g 16 then frame_Encode else bif Nat.beq g 28 then overdubref05_As else bif Nat.beq g 29 then overdubref01_Of else bif Nat.beq g 22 then frame_Kind else bif Nat.beq g 19 then overdublaw08_wakes else fun _ _ => none
theorem G8_14 : G8 14 = overdubkeep_Within := by kernel_rfl
theorem G8_16 : G8 16 = frame_Encode := by kernel_rfl
theorem G8_28 : G8 28 = overdubref05_As := by kernel_rfl
theorem G8_29 : G8 29 = overdubref01_Of := by kernel_rfl
theorem G8_22 : G8 22 = frame_Kind := by kernel_rfl
theorem G8_19 : G8 19 = overdublaw08_wakes := by kernel_rfl
def A8 : Ann := .two (.leaf) (.two (.leaf) (.two (.leaf) (.two (.two (.leaf) (.join [(7, .s), (8, .s)] [] [] (.loop [(7, .s), (8, .s), (9, .i .i64)] [0, 1, 2] [0] (.two (.two (.leaf) (.two (.leaf) (.leaf))) (.two (.join [(0, .i .i64), (1, .i .i64), (2, .i .i64), (7, .s), (8, .s), (9, .i .i64)] [] [] (.leaf) .leaf) (.leaf)))) .leaf)) (.two (.leaf) (.two (.leaf) (.two (.leaf) (.two (.leaf) (.two (.leaf) (.leaf)))))))))
def R8 : Slots := [(6, .b)]
noncomputable def overdublaw08_FramePlain : FunA := denF Try.prog G8 Try.f8 A8 R8
noncomputable def overdublaw08_FramePlain_L1_B (os vs : List AV) (μ : AMem) : Option Res := joinK [(7, .s), (8, .s), (9, .i .i64)] vs (envO [0, 1, 2] os) fun e => den Try.prog G8 Try.f8.ntmps (cL (cL (cR (cL (cR (cR (cR (bodyOf Try.f8)))))))) (aL (aL (aR (aL (aR (aR (aR A8))))))) { ret := R8, exits := [(0, [(7, .s), (8, .s)])] } Res e μ fun ex e μ => some (ex, valsOf (Lv.at { ret := R8, exits := [(0, [(7, .s), (8, .s)])] } [(7, .s), (8, .s), (9, .i .i64)] ex) e, μ)
noncomputable def overdublaw08_FramePlain_L1 (os vs : List AV) (μ : AMem) : Option Res := loopA (overdublaw08_FramePlain_L1_B os) vs μ
theorem overdublaw08_FramePlain_L1_B_eq (s0 : Int) (s1 : Int) (s2 : Int) (s7 : SV) (s8 : SV) (s9 : Int) (μ : AMem) : overdublaw08_FramePlain_L1_B [.s (.int .i64 s0), .s (.int .i64 s1), .s (.int .i64 s2)] [.s s7, .s s8, .s (.int .i64 s9)] μ =
  bif decide (s9 < s2) then
  (appendA 3 1 8 (μ.next + 3) ((μ.bump 14).set (μ.next + 2) (rowObj [.int .i64 s0] 1 3 (some 1))) (.s s7) (.s (.slice (μ.next + 2) 0 0 1)) fun x49 m50 =>
    asS x49 fun x51 =>
    appendA 3 1 8 (μ.next + 11) (m50.set (μ.next + 10) (rowObj [.int .i64 (IntKind.wrap .i64 (s0 + (IntKind.wrap .i64 (s1 * s9))))] 1 3 (some 1))) (.s s8) (.s (.slice (μ.next + 10) 0 0 1)) fun x52 m53 =>
    asS x52 fun x54 =>
    some (.normal, [.s x51, .s x54, .s (.int .i64 (IntKind.wrap .i64 (s9 + 1)))], m53))
  else
  (some (.exit 0, [.s s7, .s s8], μ)) := by kernel_rfl
theorem overdublaw08_FramePlain_L1_eq (os vs : List AV) (μ : AMem) : overdublaw08_FramePlain_L1 os vs μ = (overdublaw08_FramePlain_L1_B os vs μ).bind fun r => match r.1 with | .normal => overdublaw08_FramePlain_L1 os r.2.1 r.2.2 | _ => some r := loopA_eq _ _ _
theorem overdublaw08_FramePlain_eq (p0 : Int) (p1 : Int) (p2 : Int) (μ : AMem) : overdublaw08_FramePlain [.s (.int .i64 p0), .s (.int .i64 p1), .s (.int .i64 p2)] μ =
  (overdubkeep_Within [.s (.int .i64 p0), .s (.int .i64 1048576)] μ).bind fun r1 =>
  asI .i64 r1.1 fun n2 =>
  (overdubkeep_Within [.s (.int .i64 p1), .s (.int .i64 1000)] r1.2).bind fun r3 =>
  asI .i64 r3.1 fun n4 =>
  (overdubkeep_Within [.s (.int .i64 p2), .s (.int .i64 45)] r3.2).bind fun r5 =>
  asI .i64 r5.1 fun n6 =>
  seqJ (overdublaw08_FramePlain_L1 [.s (.int .i64 (IntKind.wrap .i64 (n2 - 524288))), .s (.int .i64 (IntKind.wrap .i64 (1 + n4))), .s (.int .i64 (IntKind.wrap .i64 (20 + n6)))] [.s .nilSlice, .s .nilSlice, .s (.int .i64 0)] r5.2)
  (fun _ _ => none)
  (fun vs7 m8 =>
    headK vs7 fun a12 r13 =>
    asB a12 fun b14 =>
    some (.s (.bool b14), m8))
  (fun d11 vs9 m10 =>
    bif Nat.beq 0 d11 then (headK vs9 fun a15 r16 =>
      asS a15 fun x17 =>
      headK r16 fun a18 r19 =>
      asS a18 fun x20 =>
      (frame_Encode [.s x17] m10).bind fun r21 =>
      extrK 0 r21.1 fun t22 =>
      asS t22 fun x23 =>
      extrK 1 r21.1 fun t24 =>
      asI .i64 t24 fun n25 =>
      (frame_Encode [.s x20] r21.2).bind fun r26 =>
      extrK 0 r26.1 fun t27 =>
      asS t27 fun x28 =>
      extrK 1 r26.1 fun t29 =>
      asI .i64 t29 fun n30 =>
      (overdubref05_As [.s (.int .i64 4), .s x20] r26.2).bind fun r31 =>
      extrK 0 r31.1 fun t32 =>
      asS t32 fun x33 =>
      extrK 1 r31.1 fun t34 =>
      asB t34 fun b35 =>
      (overdubref01_Of [.s x28] r31.2).bind fun r36 =>
      asS r36.1 fun x37 =>
      bif (n25 == 0) then
      (bif (n30 == 0) then
        ((frame_Kind [.s x23] r36.2).bind fun r38 =>
          asI .i64 r38.1 fun n39 =>
          bif (n39 == 0) then
          ((lenS (.s x23)).bind fun l40 =>
            bif (((l40 : Nat) : Int) == 5) then
            (bif b35 then
              ((lenS (.s x28)).bind fun l41 =>
                (lenS (.s x33)).bind fun l42 =>
                bif decide (((l41 : Nat) : Int) ≤ ((l42 : Nat) : Int)) then
                ((lenS (.s x37)).bind fun l43 =>
                  (lenS (.s x28)).bind fun l44 =>
                  bif (((l43 : Nat) : Int) == (IntKind.wrap .i64 (8 * ((l44 : Nat) : Int)))) then
                  ((frame_Kind [.s x28] r38.2).bind fun r45 =>
                    asI .i64 r45.1 fun n46 =>
                    bif decide (n46 ≥ 3) then
                    ((overdublaw08_wakes [] r45.2).bind fun r47 =>
                      asB r47.1 fun b48 =>
                      some (.s (.bool b48), r47.2))
                    else
                    (some (.s (.bool false), r45.2)))
                  else
                  (some (.s (.bool false), r38.2)))
                else
                (some (.s (.bool false), r38.2)))
              else
              (some (.s (.bool false), r38.2)))
            else
            (some (.s (.bool false), r38.2)))
          else
          (some (.s (.bool false), r38.2)))
        else
        (some (.s (.bool false), r36.2)))
      else
      (some (.s (.bool false), r36.2))) else (none)) := by rw [← G8_14, ← G8_16, ← G8_28, ← G8_29, ← G8_22, ← G8_19]; kernel_rfl

/-! ### overdub/frame.may -/
noncomputable def G48 : FuncId → FunA := fun g => bif Nat.beq g 31 then fixed_Check else fun _ _ => none
theorem G48_31 : G48 31 = fixed_Check := by kernel_rfl
def A48 : Ann := .two (.leaf) (.two (.leaf) (.leaf))
def R48 : Slots := [(2, .b)]
noncomputable def frame_may : FunA := denF Try.prog G48 Try.f48 A48 R48
theorem frame_may_eq (p0 : SV) (μ : AMem) : frame_may [.s p0] μ =
  (lenS (.s p0)).bind fun l1 =>
  bif decide (((l1 : Nat) : Int) ≥ 1) then
  ((fixed_Check [.s p0] μ).bind fun r2 =>
    asI .i64 r2.1 fun n3 =>
    some (.s (.bool (n3 == 0)), r2.2))
  else
  (some (.s (.bool false), μ)) := by rw [← G48_31]; kernel_rfl

/-! ### overdub/frame.As -/
noncomputable def G30 : FuncId → FunA := fun g => bif Nat.beq g 48 then frame_may else bif Nat.beq g 32 then frame_digits else bif Nat.beq g 34 then bits_Writer_Bytes else fun _ _ => none
theorem G30_48 : G30 48 = frame_may := by kernel_rfl
theorem G30_32 : G30 32 = frame_digits := by kernel_rfl
theorem G30_34 : G30 34 = bits_Writer_Bytes := by kernel_rfl
def A30 : Ann := .two (.leaf) (.two (.two (.leaf) (.two (.two (.leaf) (.leaf)) (.leaf))) (.two (.leaf) (.two (.two (.leaf) (.two (.two (.leaf) (.leaf)) (.leaf))) (.two (.leaf) (.leaf)))))
def R30 : Slots := [(4, .s), (5, .b)]
noncomputable def frame_As : FunA := denF Try.prog G30 Try.f30 A30 R30
theorem frame_As_eq (p0 : Int) (p1 : SV) (μ : AMem) : frame_As [.s (.int .i64 p0), .s p1] μ =
  (frame_may [.s p1] μ).bind fun r1 =>
  asB r1.1 fun b2 =>
  bif (!b2) then
  (some (.tuple [.s .nilSlice, .s (.bool false)], r1.2))
  else
  ((frame_digits [.s (.int .i64 p0), .s p1] r1.2).bind fun r3 =>
    extrK 0 r3.1 fun t4 =>
    asS t4 fun x5 =>
    extrK 1 r3.1 fun t6 =>
    asB t6 fun b7 =>
    bif (!b7) then
    (some (.tuple [.s .nilSlice, .s (.bool false)], r3.2))
    else
    ((bits_Writer_Bytes [.s x5] r3.2).bind fun r8 =>
      asS r8.1 fun x9 =>
      some (.tuple [.s x9, .s (.bool true)], r8.2))) := by rw [← G30_48, ← G30_32, ← G30_34]; kernel_rfl

/-! ### overdub/overdublaw08.FrameSizes -/
noncomputable def G9 : FuncId → FunA := fun g => bif Nat.beq g 14 then overdubkeep_Within else bif Nat.beq g 30 then frame_As else bif Nat.beq g 16 then frame_Encode else bif Nat.beq g 19 then overdublaw08_wakes else fun _ _ => none
theorem G9_14 : G9 14 = overdubkeep_Within := by kernel_rfl
theorem G9_30 : G9 30 = frame_As := by kernel_rfl
theorem G9_16 : G9 16 = frame_Encode := by kernel_rfl
theorem G9_19 : G9 19 = overdublaw08_wakes := by kernel_rfl
def A9 : Ann := .two (.leaf) (.two (.leaf) (.two (.leaf) (.two (.leaf) (.two (.two (.leaf) (.join [(2, .i .i64), (7, .s), (8, .s)] [] [] (.loop [(7, .s), (8, .s), (9, .i .i64)] [0, 1, 2] [0] (.two (.two (.leaf) (.two (.leaf) (.leaf))) (.two (.join [(0, .s), (1, .i .i64), (2, .i .i64), (7, .s), (8, .s), (9, .i .i64)] [] [] (.two (.leaf) (.join [(10, .i .i64)] [0, 1, 2, 7, 8, 9] [] (.two (.leaf) (.two (.leaf) (.leaf))) (.leaf))) .leaf) (.leaf)))) .leaf)) (.two (.leaf) (.two (.leaf) (.two (.leaf) (.two (.leaf) (.leaf)))))))))
def R9 : Slots := [(6, .b)]
noncomputable def overdublaw08_FrameSizes : FunA := denF Try.prog G9 Try.f9 A9 R9
noncomputable def overdublaw08_FrameSizes_L1_B (os vs : List AV) (μ : AMem) : Option Res := joinK [(7, .s), (8, .s), (9, .i .i64)] vs (envO [0, 1, 2] os) fun e => den Try.prog G9 Try.f9.ntmps (cL (cL (cR (cL (cR (cR (cR (cR (bodyOf Try.f9))))))))) (aL (aL (aR (aL (aR (aR (aR (aR A9)))))))) { ret := R9, exits := [(0, [(2, .i .i64), (7, .s), (8, .s)])] } Res e μ fun ex e μ => some (ex, valsOf (Lv.at { ret := R9, exits := [(0, [(2, .i .i64), (7, .s), (8, .s)])] } [(7, .s), (8, .s), (9, .i .i64)] ex) e, μ)
noncomputable def overdublaw08_FrameSizes_L1 (os vs : List AV) (μ : AMem) : Option Res := loopA (overdublaw08_FrameSizes_L1_B os) vs μ
theorem overdublaw08_FrameSizes_L1_B_eq (s0 : SV) (s1 : Int) (s2 : Int) (s7 : SV) (s8 : SV) (s9 : Int) (μ : AMem) : overdublaw08_FrameSizes_L1_B [.s s0, .s (.int .i64 s1), .s (.int .i64 s2)] [.s s7, .s s8, .s (.int .i64 s9)] μ =
  bif decide (s9 < s2) then
  (seqJ
    ((lenS (.s s0)).bind fun l42 =>
      bif decide (s9 < ((l42 : Nat) : Int)) then
      (indS 1 (.s s0) s9 fun p43 =>
        loadAt μ p43 fun v44 =>
        asI .i64 v44 fun n45 =>
        (overdubkeep_Within [.s (.int .i64 n45), .s (.int .i64 16)] μ).bind fun r46 =>
        asI .i64 r46.1 fun n47 =>
        some (.normal, [.s (.int .i64 n47)], r46.2))
      else
      (some (.normal, [.s (.int .i64 0)], μ)))
    (fun vs48 m49 =>
      headK vs48 fun a50 r51 =>
      asI .i64 a50 fun n52 =>
      appendA 3 1 8 (m49.next + 3) ((m49.bump 10).set (m49.next + 2) (rowObj [.int .i64 s1] 1 3 (some 1))) (.s s7) (.s (.slice (m49.next + 2) 0 0 1)) fun x53 m54 =>
      asS x53 fun x55 =>
      appendA 3 1 8 (m49.next + 7) (m54.set (m49.next + 6) (rowObj [.int .i64 n52] 1 3 (some 1))) (.s s8) (.s (.slice (m49.next + 6) 0 0 1)) fun x56 m57 =>
      asS x56 fun x58 =>
      some (.normal, [.s x55, .s x58, .s (.int .i64 (IntKind.wrap .i64 (s9 + 1)))], m57))
    (fun vs59 m60 =>
      headK vs59 fun a64 r65 =>
      asB a64 fun b66 =>
      some (.ret, [.s (.bool b66)], m60))
    (fun d63 vs61 m62 =>
      none))
  else
  (some (.exit 0, [.s (.int .i64 s2), .s s7, .s s8], μ)) := by rw [← G9_14]; kernel_rfl
theorem overdublaw08_FrameSizes_L1_eq (os vs : List AV) (μ : AMem) : overdublaw08_FrameSizes_L1 os vs μ = (overdublaw08_FrameSizes_L1_B os vs μ).bind fun r => match r.1 with | .normal => overdublaw08_FrameSizes_L1 os r.2.1 r.2.2 | _ => some r := loopA_eq _ _ _
theorem overdublaw08_FrameSizes_eq (p0 : SV) (p1 : Int) (p2 : Int) (μ : AMem) : overdublaw08_FrameSizes [.s p0, .s (.int .i64 p1), .s (.int .i64 p2)] μ =
  (overdubkeep_Within [.s (.int .i64 p2), .s (.int .i64 64)] μ).bind fun r1 =>
  asI .i64 r1.1 fun n2 =>
  (overdubkeep_Within [.s (.int .i64 p1), .s (.int .i64 4194304)] r1.2).bind fun r3 =>
  asI .i64 r3.1 fun n4 =>
  seqJ (overdublaw08_FrameSizes_L1 [.s p0, .s (.int .i64 n4), .s (.int .i64 (IntKind.wrap .i64 (1 + n2)))] [.s .nilSlice, .s .nilSlice, .s (.int .i64 0)] r3.2)
  (fun _ _ => none)
  (fun vs5 m6 =>
    headK vs5 fun a10 r11 =>
    asB a10 fun b12 =>
    some (.s (.bool b12), m6))
  (fun d9 vs7 m8 =>
    bif Nat.beq 0 d9 then (headK vs7 fun a13 r14 =>
      asI .i64 a13 fun n15 =>
      headK r14 fun a16 r17 =>
      asS a16 fun x18 =>
      headK r17 fun a19 r20 =>
      asS a19 fun x21 =>
      (frame_As [.s (.int .i64 0), .s x18] m8).bind fun r22 =>
      extrK 0 r22.1 fun t23 =>
      asS t23 fun x24 =>
      extrK 1 r22.1 fun t25 =>
      asB t25 fun b26 =>
      (frame_As [.s (.int .i64 1), .s x18] r22.2).bind fun r27 =>
      extrK 0 r27.1 fun t28 =>
      asS t28 fun x29 =>
      extrK 1 r27.1 fun t30 =>
      asB t30 fun b31 =>
      (frame_Encode [.s x21] r27.2).bind fun r32 =>
      extrK 0 r32.1 fun t33 =>
      asS t33 fun x34 =>
      extrK 1 r32.1 fun t35 =>
      asI .i64 t35 fun n36 =>
      bif b26 then
      (bif b31 then
        ((lenS (.s x24)).bind fun l37 =>
          bif (((l37 : Nat) : Int) == 5) then
          ((lenS (.s x29)).bind fun l38 =>
            bif (((l38 : Nat) : Int) == (IntKind.wrap .i64 (2 + (IntKind.wrap .i64 (3 * n15))))) then
            (bif (n36 == 0) then
              ((lenS (.s x34)).bind fun l39 =>
                bif decide (((l39 : Nat) : Int) ≤ (IntKind.wrap .i64 (2 + (IntKind.wrap .i64 (Int.tdiv (IntKind.wrap .i64 ((IntKind.wrap .i64 (5 + (IntKind.wrap .i64 (6 * n15)))) + 7)) 8))))) then
                ((overdublaw08_wakes [] r32.2).bind fun r40 =>
                  asB r40.1 fun b41 =>
                  some (.s (.bool b41), r40.2))
                else
                (some (.s (.bool false), r32.2)))
              else
              (some (.s (.bool false), r32.2)))
            else
            (some (.s (.bool false), r32.2)))
          else
          (some (.s (.bool false), r32.2)))
        else
        (some (.s (.bool false), r32.2)))
      else
      (some (.s (.bool false), r32.2))) else (none)) := by rw [← G9_14, ← G9_30, ← G9_16, ← G9_19]; kernel_rfl

/-! ### overdub/overdublaw08.FrameErrors -/
noncomputable def G10 : FuncId → FunA := fun g => bif Nat.beq g 14 then overdubkeep_Within else bif Nat.beq g 16 then frame_Encode else bif Nat.beq g 30 then frame_As else bif Nat.beq g 21 then frame_Decode else bif Nat.beq g 19 then overdublaw08_wakes else fun _ _ => none
theorem G10_14 : G10 14 = overdubkeep_Within := by kernel_rfl
theorem G10_16 : G10 16 = frame_Encode := by kernel_rfl
theorem G10_30 : G10 30 = frame_As := by kernel_rfl
theorem G10_21 : G10 21 = frame_Decode := by kernel_rfl
theorem G10_19 : G10 19 = overdublaw08_wakes := by kernel_rfl
def A10 : Ann := .two (.leaf) (.two (.leaf) (.two (.leaf) (.two (.leaf) (.two (.leaf) (.two (.leaf) (.two (.leaf) (.two (.leaf) (.two (.leaf) (.two (.leaf) (.two (.leaf) (.two (.leaf) (.two (.leaf) (.two (.leaf) (.leaf))))))))))))))
def R10 : Slots := [(6, .b)]
noncomputable def overdublaw08_FrameErrors : FunA := denF Try.prog G10 Try.f10 A10 R10
theorem overdublaw08_FrameErrors_eq (p0 : Int) (p1 : Int) (p2 : Int) (μ : AMem) : overdublaw08_FrameErrors [.s (.int .i64 p0), .s (.int .i64 p1), .s (.int .u8 p2)] μ =
  (overdubkeep_Within [.s (.int .i64 p0), .s (.int .i64 9)] (μ.bump 5)).bind fun r1 =>
  asI .i64 r1.1 fun n2 =>
  if 0 ≤ (IntKind.wrap .i64 (65 + n2)) ∧ (IntKind.wrap .i64 (65 + n2)) ≤ (IntKind.wrap .i64 (65 + n2)) ∧ (IntKind.wrap .i64 (65 + n2)) ≤ 9223372036854775807 ∧ (8 : Nat) * (IntKind.wrap .i64 (65 + n2)) ≤ 140737488355328 then
  (if 0 ≤ (3 : Int) ∧ (3 : Int) < ((Int.toNat (IntKind.wrap .i64 (65 + n2))) : Nat) then
    (((r1.2.set (μ.next + 3) (rowObj (zerosA [.int .i64 0] (Int.toNat (IntKind.wrap .i64 (65 + n2)))) 1 3 (some (Int.toNat (IntKind.wrap .i64 (65 + n2)))))).store (μ.next + 3) 0 (0 + Int.toNat 3 * 1) [.int .i64 8388608]).bind fun m3 =>
      (overdubkeep_Within [.s (.int .i64 p1), .s (.int .i64 99)] (m3.bump 5)).bind fun r4 =>
      asI .i64 r4.1 fun n5 =>
      (frame_Encode [.s .nilSlice] (r4.2.set (m3.next + 3) (rowObj [.int .i64 0, .int .i64 (IntKind.wrap .i64 (8388608 + n5))] 1 3 (some 2)))).bind fun r6 =>
      extrK 0 r6.1 fun t7 =>
      asS t7 fun x8 =>
      extrK 1 r6.1 fun t9 =>
      asI .i64 t9 fun n10 =>
      (frame_Encode [.s (.slice (μ.next + 3) 0 0 (Int.toNat (IntKind.wrap .i64 (65 + n2))))] r6.2).bind fun r11 =>
      extrK 0 r11.1 fun t12 =>
      asS t12 fun x13 =>
      extrK 1 r11.1 fun t14 =>
      asI .i64 t14 fun n15 =>
      (frame_Encode [.s (.slice (m3.next + 3) 0 0 2)] r11.2).bind fun r16 =>
      extrK 0 r16.1 fun t17 =>
      asS t17 fun x18 =>
      extrK 1 r16.1 fun t19 =>
      asI .i64 t19 fun n20 =>
      (frame_As [.s (.int .i64 1), .s (.slice (m3.next + 3) 0 0 2)] r16.2).bind fun r21 =>
      extrK 0 r21.1 fun t22 =>
      asS t22 fun x23 =>
      extrK 1 r21.1 fun t24 =>
      asB t24 fun b25 =>
      (frame_As [.s (.int .i64 19), .s (.slice (r21.2.next + 0) 0 0 1)] ((r21.2.bump 7).set (r21.2.next + 0) (rowObj [.int .i64 1] 1 3 (some 1)))).bind fun r26 =>
      extrK 0 r26.1 fun t27 =>
      asS t27 fun x28 =>
      extrK 1 r26.1 fun t29 =>
      asB t29 fun b30 =>
      (frame_Decode [.s .nilSlice] r26.2).bind fun r31 =>
      extrK 0 r31.1 fun t32 =>
      asS t32 fun x33 =>
      extrK 1 r31.1 fun t34 =>
      asI .i64 t34 fun n35 =>
      (frame_Decode [.s (.slice (r31.2.next + 3) 0 0 7)] ((r31.2.bump 10).set (r31.2.next + 3) (rowObj [.int .u8 (IntKind.wrap .u8 (19 + (Int.tmod p2 200))), .int .u8 1, .int .u8 0, .int .u8 0, .int .u8 0, .int .u8 0, .int .u8 0] 1 5 (some 7)))).bind fun r36 =>
      extrK 0 r36.1 fun t37 =>
      asS t37 fun x38 =>
      extrK 1 r36.1 fun t39 =>
      asI .i64 t39 fun n40 =>
      (frame_Decode [.s (.slice (r36.2.next + 0) 0 0 5)] ((r36.2.bump 7).set (r36.2.next + 0) (rowObj [.int .u8 0, .int .u8 0, .int .u8 0, .int .u8 0, .int .u8 0] 1 5 (some 5)))).bind fun r41 =>
      extrK 0 r41.1 fun t42 =>
      asS t42 fun x43 =>
      extrK 1 r41.1 fun t44 =>
      asI .i64 t44 fun n45 =>
      (frame_Decode [.s (.slice (r41.2.next + 0) 0 0 5)] ((r41.2.bump 7).set (r41.2.next + 0) (rowObj [.int .u8 0, .int .u8 65, .int .u8 0, .int .u8 0, .int .u8 0] 1 5 (some 5)))).bind fun r46 =>
      extrK 0 r46.1 fun t47 =>
      asS t47 fun x48 =>
      extrK 1 r46.1 fun t49 =>
      asI .i64 t49 fun n50 =>
      bif (n10 == 4) then
      (bif (n15 == 4) then
        (bif (n20 == 8) then
          (bif (!b25) then
            (bif (!b30) then
              (bif (n35 == 2) then
                (bif (n40 == 2) then
                  (bif (n45 == 2) then
                    (bif (n50 == 2) then
                      ((overdublaw08_wakes [] r46.2).bind fun r51 =>
                        asB r51.1 fun b52 =>
                        some (.s (.bool b52), r51.2))
                      else
                      (some (.s (.bool false), r46.2)))
                    else
                    (some (.s (.bool false), r46.2)))
                  else
                  (some (.s (.bool false), r46.2)))
                else
                (some (.s (.bool false), r46.2)))
              else
              (some (.s (.bool false), r46.2)))
            else
            (some (.s (.bool false), r46.2)))
          else
          (some (.s (.bool false), r46.2)))
        else
        (some (.s (.bool false), r46.2)))
      else
      (some (.s (.bool false), r46.2))) else none) else none := by rw [← G10_14, ← G10_16, ← G10_30, ← G10_21, ← G10_19]; kernel_rfl

/-! ### overdub/overdublaw08.FrameKinds -/
noncomputable def G11 : FuncId → FunA := fun g => bif Nat.beq g 13 then overdublaw08_Tone else bif Nat.beq g 23 then overdubkeep_Samples else bif Nat.beq g 30 then frame_As else bif Nat.beq g 28 then overdubref05_As else bif Nat.beq g 17 then overdubkeep_Same_byte else bif Nat.beq g 19 then overdublaw08_wakes else fun _ _ => none
theorem G11_13 : G11 13 = overdublaw08_Tone := by kernel_rfl
theorem G11_23 : G11 23 = overdubkeep_Samples := by kernel_rfl
theorem G11_30 : G11 30 = frame_As := by kernel_rfl
theorem G11_28 : G11 28 = overdubref05_As := by kernel_rfl
theorem G11_17 : G11 17 = overdubkeep_Same_byte := by kernel_rfl
theorem G11_19 : G11 19 = overdublaw08_wakes := by kernel_rfl
def A11 : Ann := .two (.leaf) (.join [(0, .s)] [1] [] (.two (.leaf) (.two (.leaf) (.leaf))) (.two (.leaf) (.two (.leaf) (.two (.leaf) (.leaf)))))
def R11 : Slots := [(10, .b)]
noncomputable def overdublaw08_FrameKinds : FunA := denF Try.prog G11 Try.f11 A11 R11
theorem overdublaw08_FrameKinds_eq (p0 : SV) (p1 : Int) (p2 : Bool) (p3 : Bool) (p4 : Int) (μ : AMem) : overdublaw08_FrameKinds [.s p0, .s (.int .i64 p1), .s (.bool p2), .s (.bool p3), .s (.int .i64 p4)] μ =
  seqJ
  (bif p3 then
    ((overdublaw08_Tone [.s p0, .s (.int .i64 p4), .s (.int .i64 p1), .s (.int .i64 (IntKind.wrap .i64 (p4 * 37)))] μ).bind fun r1 =>
      asS r1.1 fun x2 =>
      some (.normal, [.s x2], r1.2))
    else
    ((overdubkeep_Samples [.s p0, .s (.int .i64 66), .s (.bool p2)] μ).bind fun r3 =>
      asS r3.1 fun x4 =>
      some (.normal, [.s x4], r3.2)))
  (fun vs5 m6 =>
    headK vs5 fun a7 r8 =>
    asS a7 fun x9 =>
    (frame_As [.s (.int .i64 p1), .s x9] m6).bind fun r10 =>
    extrK 0 r10.1 fun t11 =>
    asS t11 fun x12 =>
    extrK 1 r10.1 fun t13 =>
    asB t13 fun b14 =>
    (overdubref05_As [.s (.int .i64 p1), .s x9] r10.2).bind fun r15 =>
    extrK 0 r15.1 fun t16 =>
    asS t16 fun x17 =>
    extrK 1 r15.1 fun t18 =>
    asB t18 fun b19 =>
    bif (b14 == b19) then
    ((overdubkeep_Same_byte [.s x12, .s x17] r15.2).bind fun r20 =>
      asB r20.1 fun b21 =>
      bif b21 then
      ((overdublaw08_wakes [] r20.2).bind fun r22 =>
        asB r22.1 fun b23 =>
        some (.s (.bool b23), r22.2))
      else
      (some (.s (.bool false), r20.2)))
    else
    (some (.s (.bool false), r15.2)))
  (fun vs24 m25 =>
    headK vs24 fun a29 r30 =>
    asB a29 fun b31 =>
    some (.s (.bool b31), m25))
  (fun d28 vs26 m27 =>
    none) := by rw [← G11_13, ← G11_23, ← G11_30, ← G11_28, ← G11_17, ← G11_19]; kernel_rfl

/-! ### overdub/overdublaw08.FrameBack -/
noncomputable def G12 : FuncId → FunA := fun g => bif Nat.beq g 13 then overdublaw08_Tone else bif Nat.beq g 23 then overdubkeep_Samples else bif Nat.beq g 16 then frame_Encode else bif Nat.beq g 19 then overdublaw08_wakes else bif Nat.beq g 21 then frame_Decode else bif Nat.beq g 18 then overdubkeep_Same_int else bif Nat.beq g 30 then frame_As else bif Nat.beq g 22 then frame_Kind else bif Nat.beq g 17 then overdubkeep_Same_byte else fun _ _ => none
theorem G12_13 : G12 13 = overdublaw08_Tone := by kernel_rfl
theorem G12_23 : G12 23 = overdubkeep_Samples := by kernel_rfl
theorem G12_16 : G12 16 = frame_Encode := by kernel_rfl
theorem G12_19 : G12 19 = overdublaw08_wakes := by kernel_rfl
theorem G12_21 : G12 21 = frame_Decode := by kernel_rfl
theorem G12_18 : G12 18 = overdubkeep_Same_int := by kernel_rfl
theorem G12_30 : G12 30 = frame_As := by kernel_rfl
theorem G12_22 : G12 22 = frame_Kind := by kernel_rfl
theorem G12_17 : G12 17 = overdubkeep_Same_byte := by kernel_rfl
def A12 : Ann := .two (.leaf) (.join [(0, .s)] [] [] (.two (.leaf) (.two (.leaf) (.leaf))) (.two (.two (.leaf) (.two (.two (.leaf) (.two (.leaf) (.leaf))) (.leaf))) (.two (.leaf) (.two (.leaf) (.two (.join [(74, .b)] [0, 11] [] (.leaf) (.two (.two (.leaf) (.leaf)) (.leaf))) (.two (.leaf) (.two (.two (.leaf) (.join [(15, .b)] [] [] (.loop [(15, .b), (16, .i .i64)] [0, 11] [0] (.two (.two (.leaf) (.two (.leaf) (.leaf))) (.join [(15, .b)] [0, 11, 16] [] (.join [(0, .s), (11, .s), (15, .b), (16, .i .i64)] [] [] (.two (.leaf) (.two (.two (.leaf) (.two (.two (.two (.leaf) (.two (.two (.leaf) (.leaf)) (.leaf))) (.leaf)) (.leaf))) (.two (.leaf) (.two (.join [(114, .b)] [0, 11, 15, 16, 17] [] (.leaf) (.two (.two (.leaf) (.leaf)) (.leaf))) (.leaf))))) .leaf) (.leaf)))) .leaf)) (.two (.leaf) (.leaf)))))))))
def R12 : Slots := [(8, .b)]
noncomputable def overdublaw08_FrameBack : FunA := denF Try.prog G12 Try.f12 A12 R12
noncomputable def overdublaw08_FrameBack_L1_B (os vs : List AV) (μ : AMem) : Option Res := joinK [(15, .b), (16, .i .i64)] vs (envO [0, 11] os) fun e => den Try.prog G12 Try.f12.ntmps (cL (cL (cR (cL (cR (cR (cR (cR (cR (cR (cR (bodyOf Try.f12)))))))))))) (aL (aL (aR (aL (aR (aR (aR (aR (aR (aR (aR A12))))))))))) { ret := R12, exits := [(0, [(15, .b)])] } Res e μ fun ex e μ => some (ex, valsOf (Lv.at { ret := R12, exits := [(0, [(15, .b)])] } [(15, .b), (16, .i .i64)] ex) e, μ)
noncomputable def overdublaw08_FrameBack_L1 (os vs : List AV) (μ : AMem) : Option Res := loopA (overdublaw08_FrameBack_L1_B os) vs μ
theorem overdublaw08_FrameBack_L1_B_eq (s0 : SV) (s11 : SV) (s15 : Bool) (s16 : Int) (μ : AMem) : overdublaw08_FrameBack_L1_B [.s s0, .s s11] [.s (.bool s15), .s (.int .i64 s16)] μ =
  bif decide (s16 ≤ 18) then
  (seqJ
    ((frame_As [.s (.int .i64 s16), .s s0] μ).bind fun r66 =>
      extrK 0 r66.1 fun t67 =>
      asS t67 fun x68 =>
      extrK 1 r66.1 fun t69 =>
      asB t69 fun b70 =>
      bif (!b70) then
      (bif (s16 == 1) then
        (some (.ret, [.s (.bool false)], r66.2))
        else
        (some (.normal, [.s (.bool s15)], r66.2)))
      else
      ((frame_Decode [.s x68] r66.2).bind fun r71 =>
        extrK 0 r71.1 fun t72 =>
        asS t72 fun x73 =>
        extrK 1 r71.1 fun t74 =>
        asI .i64 t74 fun n75 =>
        seqJ
        (bif !(n75 != 0) then
          ((overdubkeep_Same_int [.s x73, .s s0] r71.2).bind fun r76 =>
            asB r76.1 fun b77 =>
            bif !(!b77) then
            ((lenS (.s x68)).bind fun l78 =>
              (lenS (.s s11)).bind fun l79 =>
              bif !(decide (((l78 : Nat) : Int) < ((l79 : Nat) : Int))) then
              ((frame_Kind [.s x68] r76.2).bind fun r80 =>
                asI .i64 r80.1 fun n81 =>
                some (.normal, [.s (.bool (n81 != s16))], r80.2))
              else
              (some (.normal, [.s (.bool true)], r76.2)))
            else
            (some (.normal, [.s (.bool true)], r76.2)))
          else
          (some (.normal, [.s (.bool true)], r71.2)))
        (fun vs82 m83 =>
          headK vs82 fun a84 r85 =>
          asB a84 fun b86 =>
          bif b86 then
          (some (.ret, [.s (.bool false)], m83))
          else
          (bif !s15 then
            ((overdubkeep_Same_byte [.s x68, .s s11] m83).bind fun r87 =>
              asB r87.1 fun b88 =>
              some (.normal, [.s (.bool b88)], r87.2))
            else
            (some (.normal, [.s (.bool true)], m83))))
        (fun vs89 m90 =>
          headK vs89 fun a94 r95 =>
          asB a94 fun b96 =>
          some (.ret, [.s (.bool b96)], m90))
        (fun d93 vs91 m92 =>
          none)))
    (fun vs97 m98 =>
      headK vs97 fun a99 r100 =>
      asB a99 fun b101 =>
      some (.normal, [.s (.bool b101), .s (.int .i64 (IntKind.wrap .i64 (s16 + 1)))], m98))
    (fun vs102 m103 =>
      headK vs102 fun a107 r108 =>
      asB a107 fun b109 =>
      some (.ret, [.s (.bool b109)], m103))
    (fun d106 vs104 m105 =>
      none))
  else
  (some (.exit 0, [.s (.bool s15)], μ)) := by rw [← G12_21, ← G12_18, ← G12_30, ← G12_22, ← G12_17]; kernel_rfl
theorem overdublaw08_FrameBack_L1_eq (os vs : List AV) (μ : AMem) : overdublaw08_FrameBack_L1 os vs μ = (overdublaw08_FrameBack_L1_B os vs μ).bind fun r => match r.1 with | .normal => overdublaw08_FrameBack_L1 os r.2.1 r.2.2 | _ => some r := loopA_eq _ _ _
theorem overdublaw08_FrameBack_eq (p0 : SV) (p1 : Int) (p2 : Int) (p3 : Int) (μ : AMem) : overdublaw08_FrameBack [.s p0, .s (.int .i64 p1), .s (.int .i64 p2), .s (.int .i64 p3)] μ =
  seqJ
  (bif ((Int.tmod p1 3) != 0) then
    ((overdublaw08_Tone [.s p0, .s (.int .i64 p3), .s (.int .i64 p1), .s (.int .i64 p2)] μ).bind fun r1 =>
      asS r1.1 fun x2 =>
      some (.normal, [.s x2], r1.2))
    else
    ((overdubkeep_Samples [.s p0, .s (.int .i64 64), .s (.bool false)] μ).bind fun r3 =>
      asS r3.1 fun x4 =>
      some (.normal, [.s x4], r3.2)))
  (fun vs5 m6 =>
    headK vs5 fun a7 r8 =>
    asS a7 fun x9 =>
    (lenS (.s x9)).bind fun l10 =>
    bif (((l10 : Nat) : Int) == 0) then
    ((frame_Encode [.s x9] m6).bind fun r11 =>
      extrK 0 r11.1 fun t12 =>
      asS t12 fun x13 =>
      extrK 1 r11.1 fun t14 =>
      asI .i64 t14 fun n15 =>
      bif (n15 == 4) then
      ((overdublaw08_wakes [] r11.2).bind fun r16 =>
        asB r16.1 fun b17 =>
        some (.s (.bool b17), r16.2))
      else
      (some (.s (.bool false), r11.2)))
    else
    ((frame_Encode [.s x9] m6).bind fun r18 =>
      extrK 0 r18.1 fun t19 =>
      asS t19 fun x20 =>
      extrK 1 r18.1 fun t21 =>
      asI .i64 t21 fun n22 =>
      (frame_Decode [.s x20] r18.2).bind fun r23 =>
      extrK 0 r23.1 fun t24 =>
      asS t24 fun x25 =>
      extrK 1 r23.1 fun t26 =>
      asI .i64 t26 fun n27 =>
      seqJ
      (bif !(n22 != 0) then
        (bif !(n27 != 0) then
          ((overdubkeep_Same_int [.s x25, .s x9] r23.2).bind fun r28 =>
            asB r28.1 fun b29 =>
            bif !(!b29) then
            ((lenS (.s x20)).bind fun l30 =>
              (lenS (.s x9)).bind fun l31 =>
              some (.normal, [.s (.bool (decide (((l30 : Nat) : Int) > (IntKind.wrap .i64 (2 + (IntKind.wrap .i64 (3 * ((l31 : Nat) : Int))))))))], r28.2))
            else
            (some (.normal, [.s (.bool true)], r28.2)))
          else
          (some (.normal, [.s (.bool true)], r23.2)))
        else
        (some (.normal, [.s (.bool true)], r23.2)))
      (fun vs32 m33 =>
        headK vs32 fun a34 r35 =>
        asB a34 fun b36 =>
        bif b36 then
        (some (.s (.bool false), m33))
        else
        (seqJ (overdublaw08_FrameBack_L1 [.s x9, .s x20] [.s (.bool false), .s (.int .i64 0)] m33)
          (fun _ _ => none)
          (fun vs37 m38 =>
            headK vs37 fun a42 r43 =>
            asB a42 fun b44 =>
            some (.s (.bool b44), m38))
          (fun d41 vs39 m40 =>
            bif Nat.beq 0 d41 then (headK vs39 fun a45 r46 =>
              asB a45 fun b47 =>
              bif b47 then
              ((overdublaw08_wakes [] m40).bind fun r48 =>
                asB r48.1 fun b49 =>
                some (.s (.bool b49), r48.2))
              else
              (some (.s (.bool false), m40))) else (none))))
      (fun vs50 m51 =>
        headK vs50 fun a55 r56 =>
        asB a55 fun b57 =>
        some (.s (.bool b57), m51))
      (fun d54 vs52 m53 =>
        none)))
  (fun vs58 m59 =>
    headK vs58 fun a63 r64 =>
    asB a63 fun b65 =>
    some (.s (.bool b65), m59))
  (fun d62 vs60 m61 =>
    none) := by rw [← G12_13, ← G12_23, ← G12_16, ← G12_19, ← G12_21, ← G12_18]; kernel_rfl

end Go.Proofs.Ytadhelkiinaenaa
