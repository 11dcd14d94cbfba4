/- The Go functions as plain functions. -/
import Derived.Test.YtnjenjbodcihmaaGreatProg
import Derived.KernelRfl
import Derived.Test.YtnjenjbodcihmaaGreatZb
namespace Go.Proofs.YtnjenjbodcihmaaGreat
open Go Go.Proofs.YtnjenjbodcihmaaGreat.E
set_option maxRecDepth 100000
set_option linter.unusedVariables false
noncomputable def G24 : FuncId → FunA := fun _ _ _ => none
def A24 : Ann := .two (.leaf) (.two (.two (.leaf) (.two (.two (.leaf) (.leaf)) (.leaf))) (.two (.leaf) (.join [(5, .i .i64)] [] [] (.two (.leaf) (.two (.leaf) (.leaf))) (.two (.leaf) (.leaf)))))
def R24 : Slots := [(4, .i .i64)]
noncomputable def overdubkeep_Within : FunA := denF Tryz.prog G24 Tryz.f24 A24 R24
theorem overdubkeep_Within_eq (p0 : Int) (p1 : Int) (μ : AMem) : overdubkeep_Within [.s (.int .i64 p0), .s (.int .i64 p1)] μ =
 bif decide (p1 < 1) then
 (some (.s (.int .i64 0), μ))
 else
 (if p1 = 0 then none else
 (seqJ
 (bif decide ((Int.tmod p0 p1) < 0) then
 (some (.normal, [.s (.int .i64 (IntKind.wrap .i64 ((Int.tmod p0 p1) + p1)))], μ))
 else
 (some (.normal, [.s (.int .i64 (Int.tmod p0 p1))], μ)))
 (fun vs1 m2 =>
 headK vs1 fun a3 r4 =>
 asI .i64 a3 fun n5 =>
 some (.s (.int .i64 n5), m2))
 (fun vs6 m7 =>
 headK vs6 fun a11 r12 =>
 asI .i64 a11 fun n13 =>
 some (.s (.int .i64 n13), m7))
 (fun d10 vs8 m9 =>
 none))) := by kernel_rfl

noncomputable def G6 : FuncId → FunA := fun g => bif Nat.beq g 24 then overdubkeep_Within else fun _ _ => none
theorem G6_24 : G6 24 = overdubkeep_Within := by kernel_rfl
def A6 : Ann := .two (.leaf) (.two (.leaf) (.two (.leaf) (.two (.leaf) (.join [(9, .i .i64), (10, .i .i64), (11, .i .i64)] [0, 1, 2, 3] [] (.two (.leaf) (.two (.ord [0, 1, 2, 5, 6, 7, 10, 11, 12, 3, 4, 8, 9, 13, 14, 15, 16, 17]) (.leaf))) (.two (.leaf) (.two (.two (.leaf) (.join [(12, .s)] [] [] (.loop [(12, .s), (13, .i .i64)] [0, 1, 2, 3, 9, 10, 11] [0] (.two (.two (.leaf) (.two (.leaf) (.leaf))) (.two (.join [(0, .s), (1, .i .i64), (2, .i .i64), (3, .i .i64), (9, .i .i64), (10, .i .i64), (11, .i .i64), (12, .s), (13, .i .i64)] [] [] (.two (.leaf) (.join [(14, .i .i64)] [0, 1, 2, 3, 9, 10, 11, 12, 13] [] (.two (.leaf) (.join [(0, .s), (1, .i .i64), (2, .i .i64), (3, .i .i64), (9, .i .i64), (10, .i .i64), (11, .i .i64), (12, .s), (13, .i .i64), (14, .i .i64)] [] [] (.two (.leaf) (.two (.leaf) (.two (.leaf) (.two (.leaf) (.two (.leaf) (.two (.leaf) (.leaf))))))) .leaf)) (.join [(14, .i .i64)] [0, 1, 2, 3, 9, 10, 11, 12, 13] [] (.join [(80, .b)] [0, 1, 2, 3, 9, 10, 11, 12, 13, 14] [] (.leaf) (.two (.leaf) (.leaf))) (.leaf)))) .leaf) (.leaf)))) .leaf)) (.two (.leaf) (.leaf))))))))
def R6 : Slots := [(8, .s)]
noncomputable def overdublaw08_Tone : FunA := denF Tryz.prog G6 Tryz.f6 A6 R6
noncomputable def overdublaw08_Tone_L1_B (os vs : List AV) (μ : AMem) : Option Res := joinK [(12, .s), (13, .i .i64)] vs (envO [0, 1, 2, 3, 9, 10, 11] os) fun e => den Tryz.prog G6 Tryz.f6.ntmps (cL (cL (cR (cL (cR (cR (cR (cR (cR (cR (bodyOf Tryz.f6))))))))))) (aL (aL (aR (aL (aR (aR (aR (aR (aR (aR A6)))))))))) { ret := R6, exits := [(0, [(12, .s)])] } Res e μ fun ex e μ => some (ex, valsOf (Lv.at { ret := R6, exits := [(0, [(12, .s)])] } [(12, .s), (13, .i .i64)] ex) e, μ)
noncomputable def overdublaw08_Tone_L1 (os vs : List AV) (μ : AMem) : Option Res := loopA (overdublaw08_Tone_L1_B os) vs μ
theorem overdublaw08_Tone_L1_B_eq (s0 : SV) (s1 : Int) (s2 : Int) (s3 : Int) (s9 : Int) (s10 : Int) (s11 : Int) (s12 : SV) (s13 : Int) (μ : AMem) : overdublaw08_Tone_L1_B [.s s0, .s (.int .i64 s1), .s (.int .i64 s2), .s (.int .i64 s3), .s (.int .i64 s9), .s (.int .i64 s10), .s (.int .i64 s11)] [.s s12, .s (.int .i64 s13)] μ =
 bif decide (s13 < s1) then
 (seqJ
 ((overdubkeep_Within [.s (.int .i64 s2), .s (.int .i64 4)] μ).bind fun r51 =>
 asI .i64 r51.1 fun n52 =>
 bif (n52 == 1) then
 (some (.normal, [.s (.int .i64 (IntKind.wrap .i64 (s9 + (IntKind.wrap .i64 (s10 * s13)))))], r51.2))
 else
 (bif (n52 == 2) then
 (some (.normal, [.s (.int .i64 (IntKind.wrap .i64 (s9 + (IntKind.wrap .i64 ((IntKind.wrap .i64 (s10 * s13)) + (IntKind.wrap .i64 ((IntKind.wrap .i64 (s11 * s13)) * s13)))))))], r51.2))
 else
 (bif (n52 == 3) then
 (some (.normal, [.s (.int .i64 (IntKind.wrap .i64 (s9 + (IntKind.wrap .i64 (s10 * (Int.tmod s13 7))))))], r51.2))
 else
 (some (.normal, [.s (.int .i64 s9)], r51.2)))))
 (fun vs53 m54 =>
 headK vs53 fun a55 r56 =>
 asI .i64 a55 fun n57 =>
 seqJ
 (seqJ
 ((lenS (.s s0)).bind fun l58 =>
 bif decide (s13 < ((l58 : Nat) : Int)) then
 (some (.normal, [.s (.bool (decide (s3 > 0)))], m54))
 else
 (some (.normal, [.s (.bool false)], m54)))
 (fun vs59 m60 =>
 headK vs59 fun a61 r62 =>
 asB a61 fun b63 =>
 bif b63 then
 (indS 1 (.s s0) s13 fun p64 =>
 loadAt m60 p64 fun v65 =>
 asI .i64 v65 fun n66 =>
 (overdubkeep_Within [.s (.int .i64 n66), .s (.int .i64 s3)] m60).bind fun r67 =>
 asI .i64 r67.1 fun n68 =>
 some (.normal, [.s (.int .i64 (IntKind.wrap .i64 (n57 + n68)))], r67.2))
 else
 (some (.normal, [.s (.int .i64 n57)], m60)))
 (fun vs69 m70 =>
 headK vs69 fun a74 r75 =>
 asS a74 fun x76 =>
 some (.ret, [.s x76], m70))
 (fun d73 vs71 m72 =>
 none))
 (fun vs77 m78 =>
 headK vs77 fun a79 r80 =>
 asI .i64 a79 fun n81 =>
 appendA 3 1 8 (m78.next + 3) ((m78.bump 5).set (m78.next + 2) (rowObj [.int .i64 n81] 1 3 (some 1))) (.s s12) (.s (.slice (m78.next + 2) 0 0 1)) fun x82 m83 =>
 asS x82 fun x84 =>
 some (.normal, [.s x84, .s (.int .i64 (IntKind.wrap .i64 (s13 + 1)))], m83))
 (fun vs85 m86 =>
 headK vs85 fun a90 r91 =>
 asS a90 fun x92 =>
 some (.ret, [.s x92], m86))
 (fun d89 vs87 m88 =>
 none))
 (fun vs93 m94 =>
 headK vs93 fun a98 r99 =>
 asS a98 fun x100 =>
 some (.ret, [.s x100], m94))
 (fun d97 vs95 m96 =>
 none))
 else
 (some (.exit 0, [.s s12], μ)) := by rw [← G6_24]; kernel_rfl
theorem overdublaw08_Tone_L1_eq (os vs : List AV) (μ : AMem) : overdublaw08_Tone_L1 os vs μ = (overdublaw08_Tone_L1_B os vs μ).bind fun r => match r.1 with | .normal => overdublaw08_Tone_L1 os r.2.1 r.2.2 | _ => some r := loopA_eq _ _ _
theorem overdublaw08_Tone_eq (p0 : SV) (p1 : Int) (p2 : Int) (p3 : Int) (μ : AMem) : overdublaw08_Tone [.s p0, .s (.int .i64 p1), .s (.int .i64 p2), .s (.int .i64 p3)] μ =
 (overdubkeep_Within [.s (.int .i64 p1), .s (.int .i64 65)] μ).bind fun r1 =>
 asI .i64 r1.1 fun n2 =>
 (overdubkeep_Within [.s (.int .i64 p3), .s (.int .i64 4000)] r1.2).bind fun r3 =>
 asI .i64 r3.1 fun n4 =>
 seqJ
 ((lenS (.s p0)).bind fun l5 =>
 bif decide (((l5 : Nat) : Int) > 2) then
 (indS 1 (.s p0) 0 fun p6 =>
 loadAt r3.2 p6 fun v7 =>
 asI .i64 v7 fun n8 =>
 indS 1 (.s p0) 1 fun p9 =>
 loadAt r3.2 p9 fun v10 =>
 asI .i64 v10 fun n11 =>
 indS 1 (.s p0) 2 fun p12 =>
 loadAt r3.2 p12 fun v13 =>
 asI .i64 v13 fun n14 =>
 (overdubkeep_Within [.s (.int .i64 n8), .s (.int .i64 100000)] r3.2).bind fun r15 =>
 asI .i64 r15.1 fun n16 =>
 checkA ((loadAt r15.2 p12 some) = some (.s (.int .i64 n14)))
 (checkA ((loadAt r15.2 p9 some) = some (.s (.int .i64 n11)))
 ((overdubkeep_Within [.s (.int .i64 n11), .s (.int .i64 2000)] r15.2).bind fun r17 =>
 asI .i64 r17.1 fun n18 =>
 checkA ((loadAt r17.2 p12 some) = some (.s (.int .i64 n14)))
 ((overdubkeep_Within [.s (.int .i64 n14), .s (.int .i64 40)] r17.2).bind fun r19 =>
 asI .i64 r19.1 fun n20 =>
 some (.normal, [.s (.int .i64 (IntKind.wrap .i64 (n16 - 50000))), .s (.int .i64 (IntKind.wrap .i64 (n18 - 1000))), .s (.int .i64 (IntKind.wrap .i64 (n20 - 20)))], r19.2)))))
 else
 (some (.normal, [.s (.int .i64 0), .s (.int .i64 0), .s (.int .i64 0)], r3.2)))
 (fun vs21 m22 =>
 headK vs21 fun a23 r24 =>
 asI .i64 a23 fun n25 =>
 headK r24 fun a26 r27 =>
 asI .i64 a26 fun n28 =>
 headK r27 fun a29 r30 =>
 asI .i64 a29 fun n31 =>
 seqJ (overdublaw08_Tone_L1 [.s p0, .s (.int .i64 n2), .s (.int .i64 p2), .s (.int .i64 n4), .s (.int .i64 n25), .s (.int .i64 n28), .s (.int .i64 n31)] [.s .nilSlice, .s (.int .i64 0)] m22)
 (fun _ _ => none)
 (fun vs32 m33 =>
 headK vs32 fun a37 r38 =>
 asS a37 fun x39 =>
 some (.s x39, m33))
 (fun d36 vs34 m35 =>
 bif Nat.beq 0 d36 then (headK vs34 fun a40 r41 =>
 asS a40 fun x42 =>
 some (.s x42, m35)) else (none)))
 (fun vs43 m44 =>
 headK vs43 fun a48 r49 =>
 asS a48 fun x50 =>
 some (.s x50, m44))
 (fun d47 vs45 m46 =>
 none) := by rw [← G6_24]; kernel_rfl

noncomputable def G7 : FuncId → FunA := fun g => bif Nat.beq g 24 then overdubkeep_Within else fun _ _ => none
theorem G7_24 : G7 24 = overdubkeep_Within := by kernel_rfl
def A7 : Ann := .two (.leaf) (.two (.leaf) (.two (.two (.leaf) (.join [(7, .s)] [] [] (.loop [(7, .s), (8, .i .i64)] [0, 1, 2] [0] (.two (.join [(18, .b)] [0, 1, 2, 7, 8] [] (.leaf) (.two (.leaf) (.leaf))) (.two (.join [(0, .s), (1, .i .i64), (2, .b), (7, .s), (8, .i .i64)] [] [] (.two (.leaf) (.join [(9, .i .i64)] [0, 1, 2, 7, 8] [] (.join [(31, .b)] [0, 1, 2, 7, 8, 9] [] (.leaf) (.two (.two (.leaf) (.join [(47, .b)] [0, 1, 2, 7, 8, 9] [] (.leaf) (.two (.leaf) (.leaf)))) (.leaf))) (.leaf))) .leaf) (.leaf)))) .leaf)) (.two (.leaf) (.leaf))))
def R7 : Slots := [(6, .s)]
noncomputable def overdubkeep_Samples : FunA := denF Tryz.prog G7 Tryz.f7 A7 R7
noncomputable def overdubkeep_Samples_L1_B (os vs : List AV) (μ : AMem) : Option Res := joinK [(7, .s), (8, .i .i64)] vs (envO [0, 1, 2] os) fun e => den Tryz.prog G7 Tryz.f7.ntmps (cL (cL (cR (cL (cR (cR (bodyOf Tryz.f7))))))) (aL (aL (aR (aL (aR (aR A7)))))) { ret := R7, exits := [(0, [(7, .s)])] } Res e μ fun ex e μ => some (ex, valsOf (Lv.at { ret := R7, exits := [(0, [(7, .s)])] } [(7, .s), (8, .i .i64)] ex) e, μ)
noncomputable def overdubkeep_Samples_L1 (os vs : List AV) (μ : AMem) : Option Res := loopA (overdubkeep_Samples_L1_B os) vs μ
theorem overdubkeep_Samples_L1_B_eq (s0 : SV) (s1 : Int) (s2 : Bool) (s7 : SV) (s8 : Int) (μ : AMem) : overdubkeep_Samples_L1_B [.s s0, .s (.int .i64 s1), .s (.bool s2)] [.s s7, .s (.int .i64 s8)] μ =
 seqJ
 ((lenS (.s s0)).bind fun l12 =>
 bif decide (s8 < ((l12 : Nat) : Int)) then
 (some (.normal, [.s (.bool (decide (s8 < s1)))], μ))
 else
 (some (.normal, [.s (.bool false)], μ)))
 (fun vs13 m14 =>
 headK vs13 fun a15 r16 =>
 asB a15 fun b17 =>
 bif b17 then
 (indS 1 (.s s0) s8 fun p18 =>
 loadAt m14 p18 fun v19 =>
 asI .i64 v19 fun n20 =>
 seqJ
 (seqJ
 (bif !(!s2) then
 (some (.normal, [.s (.bool ((Int.tmod n20 5) != 4))], m14))
 else
 (some (.normal, [.s (.bool true)], m14)))
 (fun vs21 m22 =>
 headK vs21 fun a23 r24 =>
 asB a23 fun b25 =>
 bif b25 then
 ((overdubkeep_Within [.s (.int .i64 (IntKind.wrap .i64 (n20 - (-8388608)))), .s (.int .i64 16777216)] m22).bind fun r26 =>
 asI .i64 r26.1 fun n27 =>
 seqJ
 (indS 1 (.s s0) s8 fun p28 =>
 loadAt r26.2 p28 fun v29 =>
 asI .i64 v29 fun n30 =>
 bif decide (n30 ≥ (-8388608)) then
 (indS 1 (.s s0) s8 fun p31 =>
 loadAt r26.2 p31 fun v32 =>
 asI .i64 v32 fun n33 =>
 some (.normal, [.s (.bool (decide (n33 ≤ 8388607)))], r26.2))
 else
 (some (.normal, [.s (.bool false)], r26.2)))
 (fun vs34 m35 =>
 headK vs34 fun a36 r37 =>
 asB a36 fun b38 =>
 bif b38 then
 (indS 1 (.s s0) s8 fun p39 =>
 loadAt m35 p39 fun v40 =>
 asI .i64 v40 fun n41 =>
 some (.normal, [.s (.int .i64 n41)], m35))
 else
 (some (.normal, [.s (.int .i64 (IntKind.wrap .i64 ((-8388608) + n27)))], m35)))
 (fun vs42 m43 =>
 headK vs42 fun a47 r48 =>
 asS a47 fun x49 =>
 some (.ret, [.s x49], m43))
 (fun d46 vs44 m45 =>
 none))
 else
 (some (.normal, [.s (.int .i64 n20)], m22)))
 (fun vs50 m51 =>
 headK vs50 fun a55 r56 =>
 asS a55 fun x57 =>
 some (.ret, [.s x57], m51))
 (fun d54 vs52 m53 =>
 none))
 (fun vs58 m59 =>
 headK vs58 fun a60 r61 =>
 asI .i64 a60 fun n62 =>
 appendA 3 1 8 (m59.next + 3) ((m59.bump 5).set (m59.next + 2) (rowObj [.int .i64 n62] 1 3 (some 1))) (.s s7) (.s (.slice (m59.next + 2) 0 0 1)) fun x63 m64 =>
 asS x63 fun x65 =>
 some (.normal, [.s x65, .s (.int .i64 (IntKind.wrap .i64 (s8 + 1)))], m64))
 (fun vs66 m67 =>
 headK vs66 fun a71 r72 =>
 asS a71 fun x73 =>
 some (.ret, [.s x73], m67))
 (fun d70 vs68 m69 =>
 none))
 else
 (some (.exit 0, [.s s7], m14)))
 (fun vs74 m75 =>
 headK vs74 fun a79 r80 =>
 asS a79 fun x81 =>
 some (.ret, [.s x81], m75))
 (fun d78 vs76 m77 =>
 none) := by rw [← G7_24]; kernel_rfl
theorem overdubkeep_Samples_L1_eq (os vs : List AV) (μ : AMem) : overdubkeep_Samples_L1 os vs μ = (overdubkeep_Samples_L1_B os vs μ).bind fun r => match r.1 with | .normal => overdubkeep_Samples_L1 os r.2.1 r.2.2 | _ => some r := loopA_eq _ _ _
theorem overdubkeep_Samples_eq (p0 : SV) (p1 : Int) (p2 : Bool) (μ : AMem) : overdubkeep_Samples [.s p0, .s (.int .i64 p1), .s (.bool p2)] μ =
 seqJ (overdubkeep_Samples_L1 [.s p0, .s (.int .i64 p1), .s (.bool p2)] [.s .nilSlice, .s (.int .i64 0)] μ)
 (fun _ _ => none)
 (fun vs1 m2 =>
 headK vs1 fun a6 r7 =>
 asS a6 fun x8 =>
 some (.s x8, m2))
 (fun d5 vs3 m4 =>
 bif Nat.beq 0 d5 then (headK vs3 fun a9 r10 =>
 asS a9 fun x11 =>
 some (.s x11, m4)) else (none)) := by kernel_rfl

noncomputable def G25 : FuncId → FunA := fun _ _ _ => none
def A25 : Ann := .two (.leaf) (.two (.leaf) (.leaf))
def R25 : Slots := [(0, .s)]
noncomputable def crc_New : FunA := denF Tryz.prog G25 Tryz.f25 A25 R25
theorem crc_New_eq  (μ : AMem) : crc_New [] μ =
 some (.s (.ptr (μ.next + 1) 0 0), ((μ.bump 3).set (μ.next + 1) (rowObj [.int .u32 0, .int .i32 0, .int .u32 0, .bool false, .int .u32 0, .int .u32 0, .int .u32 0, .int .u32 0, .int .u32 0, .int .u32 0, .int .u32 0, .int .u32 0, .int .u32 0, .int .u32 0, .int .u32 0, .int .u32 0, .int .u32 0, .int .u32 0, .int .u32 0, .int .u32 0, .int .u32 0, .int .u32 0, .int .u32 0, .int .u32 0, .int .u32 0, .int .u32 0, .int .u32 0, .int .u32 0, .int .u32 0, .int .u32 0, .int .u32 0, .int .u32 0, .int .u32 0, .int .u32 0, .int .u32 0, .int .u32 0, .int .u32 0, .int .u32 0, .int .u32 0, .int .u32 0, .int .u32 0, .int .u32 0, .int .u32 0, .int .u32 0, .int .u32 0, .int .u32 0, .int .u32 0, .int .u32 0, .int .u32 0, .int .u32 0, .int .u32 0, .int .u32 0, .int .u32 0, .int .u32 0, .int .u32 0, .int .u32 0, .int .u32 0, .int .u32 0, .int .u32 0, .int .u32 0, .int .u32 0, .int .u32 0, .int .u32 0, .int .u32 0, .int .u32 0, .int .u32 0, .int .u32 0, .int .u32 0, .int .u32 0, .int .u32 0, .int .u32 0, .int .u32 0, .int .u32 0, .int .u32 0, .int .u32 0, .int .u32 0, .int .u32 0, .int .u32 0, .int .u32 0, .int .u32 0, .int .u32 0, .int .u32 0, .int .u32 0, .int .u32 0, .int .u32 0, .int .u32 0, .int .u32 0, .int .u32 0, .int .u32 0, .int .u32 0, .int .u32 0, .int .u32 0, .int .u32 0, .int .u32 0, .int .u32 0, .int .u32 0, .int .u32 0, .int .u32 0, .int .u32 0, .int .u32 0, .int .u32 0, .int .u32 0, .int .u32 0, .int .u32 0, .int .u32 0, .int .u32 0, .int .u32 0, .int .u32 0, .int .u32 0, .int .u32 0, .int .u32 0, .int .u32 0, .int .u32 0, .int .u32 0, .int .u32 0, .int .u32 0, .int .u32 0, .int .u32 0, .int .u32 0, .int .u32 0, .int .u32 0, .int .u32 0, .int .u32 0, .int .u32 0, .int .u32 0, .int .u32 0, .int .u32 0, .int .u32 0, .int .u32 0, .int .u32 0, .int .u32 0, .int .u32 0, .int .u32 0, .int .u32 0, .int .u32 0, .int .u32 0, .int .u32 0, .int .u32 0, .int .u32 0, .int .u32 0, .int .u32 0, .int .u32 0, .int .u32 0, .int .u32 0, .int .u32 0, .int .u32 0, .int .u32 0, .int .u32 0, .int .u32 0, .int .u32 0, .int .u32 0, .int .u32 0, .int .u32 0, .int .u32 0, .int .u32 0, .int .u32 0, .int .u32 0, .int .u32 0, .int .u32 0, .int .u32 0, .int .u32 0, .int .u32 0, .int .u32 0, .int .u32 0, .int .u32 0, .int .u32 0, .int .u32 0, .int .u32 0, .int .u32 0, .int .u32 0, .int .u32 0, .int .u32 0, .int .u32 0, .int .u32 0, .int .u32 0, .int .u32 0, .int .u32 0, .int .u32 0, .int .u32 0, .int .u32 0, .int .u32 0, .int .u32 0, .int .u32 0, .int .u32 0, .int .u32 0, .int .u32 0, .int .u32 0, .int .u32 0, .int .u32 0, .int .u32 0, .int .u32 0, .int .u32 0, .int .u32 0, .int .u32 0, .int .u32 0, .int .u32 0, .int .u32 0, .int .u32 0, .int .u32 0, .int .u32 0, .int .u32 0, .int .u32 0, .int .u32 0, .int .u32 0, .int .u32 0, .int .u32 0, .int .u32 0, .int .u32 0, .int .u32 0, .int .u32 0, .int .u32 0, .int .u32 0, .int .u32 0, .int .u32 0, .int .u32 0, .int .u32 0, .int .u32 0, .int .u32 0, .int .u32 0, .int .u32 0, .int .u32 0, .int .u32 0, .int .u32 0, .int .u32 0, .int .u32 0, .int .u32 0, .int .u32 0, .int .u32 0, .int .u32 0, .int .u32 0, .int .u32 0, .int .u32 0, .int .u32 0, .int .u32 0, .int .u32 0, .int .u32 0, .int .u32 0, .int .u32 0, .int .u32 0, .int .u32 0, .int .u32 0, .int .u32 0, .int .u32 0, .int .u32 0, .int .u32 0, .int .u32 0, .int .u32 0, .int .u32 0, .int .u32 0, .int .u32 0, .int .u32 0, .int .u32 0, .int .u32 0, .int .u32 0, .int .u32 0, .int .u32 0, .int .u32 0, .int .u32 0, .int .u32 0, .int .u32 0] 260 77 (some 1)))) := by kernel_rfl

noncomputable def G8 : FuncId → FunA := fun g => bif Nat.beq g 25 then crc_New else fun _ _ => none
theorem G8_25 : G8 25 = crc_New := by kernel_rfl
def A8 : Ann := .two (.leaf) (.two (.leaf) (.leaf))
def R8 : Slots := [(0, .s)]
noncomputable def block_New : FunA := denF Tryz.prog G8 Tryz.f8 A8 R8
theorem block_New_eq  (μ : AMem) : block_New [] μ =
 (crc_New [] (μ.bump 4)).bind fun r1 =>
 asS r1.1 fun x2 =>
 some (.s (.ptr (μ.next + 2) 0 0), (r1.2.set (μ.next + 2) (rowObj [x2, .int .i64 0, .int .i64 0] 3 59 (some 1)))) := by rw [← G8_25]; kernel_rfl

noncomputable def G36 : FuncId → FunA := fun _ _ _ => none
def A36 : Ann := .two (.leaf) (.two (.leaf) (.leaf))
def R36 : Slots := [(2, .b)]
noncomputable def fixed_Sample : FunA := denF Tryz.prog G36 Tryz.f36 A36 R36
theorem fixed_Sample_eq (p0 : Int) (μ : AMem) : fixed_Sample [.s (.int .i64 p0)] μ =
 bif decide (p0 ≥ (-8388608)) then
 (some (.s (.bool (decide (p0 ≤ 8388607))), μ))
 else
 (some (.s (.bool false), μ)) := by kernel_rfl

noncomputable def G26 : FuncId → FunA := fun g => bif Nat.beq g 36 then fixed_Sample else fun _ _ => none
theorem G26_36 : G26 36 = fixed_Sample := by kernel_rfl
def A26 : Ann := .two (.leaf) (.two (.two (.leaf) (.join [] [] [] (.loop [(7, .i .i64)] [5, 6] [0] (.two (.leaf) (.two (.two (.leaf) (.leaf)) (.two (.join [(5, .s), (6, .i .i64), (7, .i .i64)] [] [] (.two (.leaf) (.two (.leaf) (.two (.two (.leaf) (.leaf)) (.leaf)))) .leaf) (.leaf))))) .leaf)) (.two (.leaf) (.leaf)))
def R26 : Slots := [(2, .b)]
noncomputable def block_right : FunA := denF Tryz.prog G26 Tryz.f26 A26 R26
noncomputable def block_right_L1_B (os vs : List AV) (μ : AMem) : Option Res := joinK [(7, .i .i64)] vs (envO [5, 6] os) fun e => den Tryz.prog G26 Tryz.f26.ntmps (cL (cL (cR (cL (cR (bodyOf Tryz.f26)))))) (aL (aL (aR (aL (aR A26))))) { ret := R26, exits := [(0, [])] } Res e μ fun ex e μ => some (ex, valsOf (Lv.at { ret := R26, exits := [(0, [])] } [(7, .i .i64)] ex) e, μ)
noncomputable def block_right_L1 (os vs : List AV) (μ : AMem) : Option Res := loopA (block_right_L1_B os) vs μ
theorem block_right_L1_B_eq (s5 : SV) (s6 : Int) (s7 : Int) (μ : AMem) : block_right_L1_B [.s s5, .s (.int .i64 s6)] [.s (.int .i64 s7)] μ =
 bif decide (s7 < s6) then
 (indS 1 (.s s5) s7 fun p10 =>
 loadAt μ p10 fun v11 =>
 asI .i64 v11 fun n12 =>
 (fixed_Sample [.s (.int .i64 n12)] μ).bind fun r13 =>
 asB r13.1 fun b14 =>
 bif (!b14) then
 (some (.ret, [.s (.bool false)], r13.2))
 else
 (some (.normal, [.s (.int .i64 (IntKind.wrap .i64 (s7 + 1)))], r13.2)))
 else
 (some (.exit 0, [], μ)) := by rw [← G26_36]; kernel_rfl
theorem block_right_L1_eq (os vs : List AV) (μ : AMem) : block_right_L1 os vs μ = (block_right_L1_B os vs μ).bind fun r => match r.1 with | .normal => block_right_L1 os r.2.1 r.2.2 | _ => some r := loopA_eq _ _ _
theorem block_right_eq (p0 : SV) (μ : AMem) : block_right [.s p0] μ =
 (lenS (.s p0)).bind fun l1 =>
 seqJ (block_right_L1 [.s p0, .s (.int .i64 ((l1 : Nat) : Int))] [.s (.int .i64 0)] μ)
 (fun _ _ => none)
 (fun vs2 m3 =>
 headK vs2 fun a7 r8 =>
 asB a7 fun b9 =>
 some (.s (.bool b9), m3))
 (fun d6 vs4 m5 =>
 bif Nat.beq 0 d6 then (some (.s (.bool true), m5)) else (none)) := by kernel_rfl

noncomputable def G37 : FuncId → FunA := fun g => bif Nat.beq g 36 then fixed_Sample else fun _ _ => none
theorem G37_36 : G37 36 = fixed_Sample := by kernel_rfl
def A37 : Ann := .two (.leaf) (.two (.two (.leaf) (.join [(0, .s)] [] [] (.loop [(7, .i .i64)] [0, 5, 6] [0] (.two (.leaf) (.two (.two (.leaf) (.leaf)) (.two (.join [(0, .s), (5, .s), (6, .i .i64), (7, .i .i64)] [] [] (.two (.leaf) (.two (.leaf) (.two (.two (.leaf) (.leaf)) (.leaf)))) .leaf) (.leaf))))) .leaf)) (.two (.two (.leaf) (.two (.two (.leaf) (.leaf)) (.leaf))) (.two (.leaf) (.leaf))))
def R37 : Slots := [(2, .i .i64)]
noncomputable def fixed_Check : FunA := denF Tryz.prog G37 Tryz.f37 A37 R37
noncomputable def fixed_Check_L1_B (os vs : List AV) (μ : AMem) : Option Res := joinK [(7, .i .i64)] vs (envO [0, 5, 6] os) fun e => den Tryz.prog G37 Tryz.f37.ntmps (cL (cL (cR (cL (cR (bodyOf Tryz.f37)))))) (aL (aL (aR (aL (aR A37))))) { ret := R37, exits := [(0, [(0, .s)])] } Res e μ fun ex e μ => some (ex, valsOf (Lv.at { ret := R37, exits := [(0, [(0, .s)])] } [(7, .i .i64)] ex) e, μ)
noncomputable def fixed_Check_L1 (os vs : List AV) (μ : AMem) : Option Res := loopA (fixed_Check_L1_B os) vs μ
theorem fixed_Check_L1_B_eq (s0 : SV) (s5 : SV) (s6 : Int) (s7 : Int) (μ : AMem) : fixed_Check_L1_B [.s s0, .s s5, .s (.int .i64 s6)] [.s (.int .i64 s7)] μ =
 bif decide (s7 < s6) then
 (indS 1 (.s s5) s7 fun p14 =>
 loadAt μ p14 fun v15 =>
 asI .i64 v15 fun n16 =>
 (fixed_Sample [.s (.int .i64 n16)] μ).bind fun r17 =>
 asB r17.1 fun b18 =>
 bif (!b18) then
 (some (.ret, [.s (.int .i64 8)], r17.2))
 else
 (some (.normal, [.s (.int .i64 (IntKind.wrap .i64 (s7 + 1)))], r17.2)))
 else
 (some (.exit 0, [.s s0], μ)) := by rw [← G37_36]; kernel_rfl
theorem fixed_Check_L1_eq (os vs : List AV) (μ : AMem) : fixed_Check_L1 os vs μ = (fixed_Check_L1_B os vs μ).bind fun r => match r.1 with | .normal => fixed_Check_L1 os r.2.1 r.2.2 | _ => some r := loopA_eq _ _ _
theorem fixed_Check_eq (p0 : SV) (μ : AMem) : fixed_Check [.s p0] μ =
 (lenS (.s p0)).bind fun l1 =>
 seqJ (fixed_Check_L1 [.s p0, .s p0, .s (.int .i64 ((l1 : Nat) : Int))] [.s (.int .i64 0)] μ)
 (fun _ _ => none)
 (fun vs2 m3 =>
 headK vs2 fun a7 r8 =>
 asI .i64 a7 fun n9 =>
 some (.s (.int .i64 n9), m3))
 (fun d6 vs4 m5 =>
 bif Nat.beq 0 d6 then (headK vs4 fun a10 r11 =>
 asS a10 fun x12 =>
 (lenS (.s x12)).bind fun l13 =>
 bif decide (((l13 : Nat) : Int) > 64) then
 (some (.s (.int .i64 4), m5))
 else
 (some (.s (.int .i64 0), m5))) else (none)) := by kernel_rfl

noncomputable def G60 : FuncId → FunA := fun _ _ _ => none
def A60 : Ann := .two (.leaf) (.two (.leaf) (.leaf))
def R60 : Slots := [(0, .s)]
noncomputable def bits_NewWriter : FunA := denF Tryz.prog G60 Tryz.f60 A60 R60
theorem bits_NewWriter_eq  (μ : AMem) : bits_NewWriter [] μ =
 some (.s (.ptr (μ.next + 1) 0 0), ((μ.bump 3).set (μ.next + 1) (rowObj [.nilSlice, .int .i64 0] 2 115 (some 1)))) := by kernel_rfl

noncomputable def G86 : FuncId → FunA := fun _ _ _ => none
def A86 : Ann := .join [] [0, 1] [] (.two (.leaf) (.two (.leaf) (.leaf))) (.join [] [0] [] (.two (.leaf) (.two (.ord [0, 1, 2, 3, 4, 5, 6, 7, 8, 9, 10, 11, 12, 13, 14, 15, 16, 17, 18, 19]) (.leaf))) (.leaf))
def R86 : Slots := []
noncomputable def bits_Writer_put : FunA := denF Tryz.prog G86 Tryz.f86 A86 R86
theorem bits_Writer_put_eq (p0 q0 o0 : Nat) (p1 : Bool) (μ : AMem) : bits_Writer_put [.s (.ptr p0 q0 o0), .s (.bool p1)] μ =
 seqJ
 ((μ.cell p0 q0 (o0 + 1)).bind fun x1 =>
 asI .i64 (.s x1) fun n2 =>
 bif ((Int.tmod n2 8) == 0) then
 (((μ.bump 10).cell p0 q0 (o0 + 0)).bind fun x3 =>
 appendA 5 1 1 (μ.next + 6) ((μ.bump 10).set (μ.next + 5) (rowObj [.int .u8 0] 1 5 (some 1))) (.s x3) (.s (.slice (μ.next + 5) 0 0 1)) fun x4 m5 =>
 asS x4 fun x6 =>
 (m5.store p0 q0 (o0 + 0) [x6]).bind fun m7 =>
 some (.normal, [], m7))
 else
 (some (.normal, [], μ)))
 (fun vs8 m9 =>
 seqJ
 (bif p1 then
 ((m9.cell p0 q0 (o0 + 0)).bind fun x10 =>
 (m9.cell p0 q0 (o0 + 1)).bind fun x11 =>
 asI .i64 (.s x11) fun n12 =>
 indS 1 (.s x10) (IntKind.wrap .i64 (Int.tdiv n12 8)) fun p13 =>
 loadAt m9 p13 fun v14 =>
 asI .u8 v14 fun n15 =>
 (m9.cell p0 q0 (o0 + 1)).bind fun x16 =>
 asI .i64 (.s x16) fun n17 =>
 if (Int.tmod n17 8) < 0 then none else
 (indS 1 (.s x10) (IntKind.wrap .i64 (Int.tdiv n12 8)) fun p18 =>
 storeAt 1 m9 p18 (.s (.int .u8 (IntKind.wrap .u8 (BitVec.toNat ((BitVec.ofInt (IntKind.bits .u8) n15) ||| (BitVec.ofInt (IntKind.bits .u8) (Int.fdiv 128 (2 ^ (min (Int.toNat (Int.tmod n17 8)) (IntKind.bits .u8)))))))))) fun m19 =>
 some (.normal, [], m19)))
 else
 (some (.normal, [], m9)))
 (fun vs20 m21 =>
 (m21.cell p0 q0 (o0 + 1)).bind fun x22 =>
 asI .i64 (.s x22) fun n23 =>
 (m21.store p0 q0 (o0 + 1) [.int .i64 (IntKind.wrap .i64 (n23 + 1))]).bind fun m24 =>
 some (.tuple [], m24))
 (fun vs25 m26 =>
 some (.tuple [], m26))
 (fun d29 vs27 m28 =>
 none))
 (fun vs30 m31 =>
 some (.tuple [], m31))
 (fun d34 vs32 m33 =>
 none) := by kernel_rfl

noncomputable def G61 : FuncId → FunA := fun g => bif Nat.beq g 86 then bits_Writer_put else fun _ _ => none
theorem G61_86 : G61 86 = bits_Writer_put := by kernel_rfl
def A61 : Ann := .two (.leaf) (.two (.join [(13, .b)] [0, 1, 2] [] (.leaf) (.two (.two (.leaf) (.leaf)) (.leaf))) (.two (.two (.leaf) (.join [] [] [] (.loop [(7, .i .i64)] [0, 1] [0] (.two (.two (.leaf) (.two (.leaf) (.leaf))) (.two (.join [(0, .s), (1, .i .i64), (7, .i .i64)] [] [] (.leaf) .leaf) (.leaf)))) .leaf)) (.two (.leaf) (.leaf))))
def R61 : Slots := [(6, .b)]
noncomputable def bits_Writer_Put : FunA := denF Tryz.prog G61 Tryz.f61 A61 R61
noncomputable def bits_Writer_Put_L1_B (os vs : List AV) (μ : AMem) : Option Res := joinK [(7, .i .i64)] vs (envO [0, 1] os) fun e => den Tryz.prog G61 Tryz.f61.ntmps (cL (cL (cR (cL (cR (cR (bodyOf Tryz.f61))))))) (aL (aL (aR (aL (aR (aR A61)))))) { ret := R61, exits := [(0, [])] } Res e μ fun ex e μ => some (ex, valsOf (Lv.at { ret := R61, exits := [(0, [])] } [(7, .i .i64)] ex) e, μ)
noncomputable def bits_Writer_Put_L1 (os vs : List AV) (μ : AMem) : Option Res := loopA (bits_Writer_Put_L1_B os) vs μ
theorem bits_Writer_Put_L1_B_eq (s0 t0 u0 : Nat) (s1 : Int) (s7 : Int) (μ : AMem) : bits_Writer_Put_L1_B [.s (.ptr s0 t0 u0), .s (.int .i64 s1)] [.s (.int .i64 s7)] μ =
 bif decide (s7 ≥ 0) then
 (if s7 < 0 then none else
 ((bits_Writer_put [.s (.ptr s0 t0 u0), .s (.bool ((IntKind.wrap .i64 (BitVec.toNat ((BitVec.ofInt (IntKind.bits .i64) (Int.fdiv s1 (2 ^ (min (Int.toNat s7) (IntKind.bits .i64))))) &&& (BitVec.ofInt (IntKind.bits .i64) 1)))) == 1))] μ).bind fun r22 =>
 some (.normal, [.s (.int .i64 (IntKind.wrap .i64 (s7 - 1)))], r22.2)))
 else
 (some (.exit 0, [], μ)) := by rw [← G61_86]; kernel_rfl
theorem bits_Writer_Put_L1_eq (os vs : List AV) (μ : AMem) : bits_Writer_Put_L1 os vs μ = (bits_Writer_Put_L1_B os vs μ).bind fun r => match r.1 with | .normal => bits_Writer_Put_L1 os r.2.1 r.2.2 | _ => some r := loopA_eq _ _ _
theorem bits_Writer_Put_eq (p0 q0 o0 : Nat) (p1 : Int) (p2 : Int) (μ : AMem) : bits_Writer_Put [.s (.ptr p0 q0 o0), .s (.int .i64 p1), .s (.int .i64 p2)] μ =
 seqJ
 (bif !(decide (p2 < 0)) then
 (some (.normal, [.s (.bool (decide (p2 > 62)))], μ))
 else
 (some (.normal, [.s (.bool true)], μ)))
 (fun vs1 m2 =>
 headK vs1 fun a3 r4 =>
 asB a3 fun b5 =>
 bif b5 then
 (some (.s (.bool false), m2))
 else
 (seqJ (bits_Writer_Put_L1 [.s (.ptr p0 q0 o0), .s (.int .i64 p1)] [.s (.int .i64 (IntKind.wrap .i64 (p2 - 1)))] m2)
 (fun _ _ => none)
 (fun vs6 m7 =>
 headK vs6 fun a11 r12 =>
 asB a11 fun b13 =>
 some (.s (.bool b13), m7))
 (fun d10 vs8 m9 =>
 bif Nat.beq 0 d10 then (some (.s (.bool true), m9)) else (none))))
 (fun vs14 m15 =>
 headK vs14 fun a19 r20 =>
 asB a19 fun b21 =>
 some (.s (.bool b21), m15))
 (fun d18 vs16 m17 =>
 none) := by kernel_rfl

noncomputable def G62 : FuncId → FunA := fun g => bif Nat.beq g 61 then bits_Writer_Put else fun _ _ => none
theorem G62_61 : G62 61 = bits_Writer_Put := by kernel_rfl
def A62 : Ann := .two (.leaf) (.join [] [] [] (.loop [(8, .i .i64)] [0, 6, 7] [0] (.two (.leaf) (.two (.two (.leaf) (.leaf)) (.two (.join [(0, .s), (6, .s), (7, .i .i64), (8, .i .i64)] [] [] (.two (.leaf) (.leaf)) .leaf) (.leaf))))) .leaf)
def R62 : Slots := []
noncomputable def frame_samples : FunA := denF Tryz.prog G62 Tryz.f62 A62 R62
noncomputable def frame_samples_L1_B (os vs : List AV) (μ : AMem) : Option Res := joinK [(8, .i .i64)] vs (envO [0, 6, 7] os) fun e => den Tryz.prog G62 Tryz.f62.ntmps (cL (cL (cR (bodyOf Tryz.f62)))) (aL (aL (aR A62))) { ret := R62, exits := [(0, [])] } Res e μ fun ex e μ => some (ex, valsOf (Lv.at { ret := R62, exits := [(0, [])] } [(8, .i .i64)] ex) e, μ)
noncomputable def frame_samples_L1 (os vs : List AV) (μ : AMem) : Option Res := loopA (frame_samples_L1_B os) vs μ
theorem frame_samples_L1_B_eq (s0 t0 u0 : Nat) (s6 : SV) (s7 : Int) (s8 : Int) (μ : AMem) : frame_samples_L1_B [.s (.ptr s0 t0 u0), .s s6, .s (.int .i64 s7)] [.s (.int .i64 s8)] μ =
 bif decide (s8 < s7) then
 (indS 1 (.s s6) s8 fun p7 =>
 loadAt μ p7 fun v8 =>
 asI .i64 v8 fun n9 =>
 (bits_Writer_Put [.s (.ptr s0 t0 u0), .s (.int .i64 (IntKind.wrap .i64 (n9 - (-8388608)))), .s (.int .i64 24)] μ).bind fun r10 =>
 asB r10.1 fun b11 =>
 some (.normal, [.s (.int .i64 (IntKind.wrap .i64 (s8 + 1)))], r10.2))
 else
 (some (.exit 0, [], μ)) := by rw [← G62_61]; kernel_rfl
theorem frame_samples_L1_eq (os vs : List AV) (μ : AMem) : frame_samples_L1 os vs μ = (frame_samples_L1_B os vs μ).bind fun r => match r.1 with | .normal => frame_samples_L1 os r.2.1 r.2.2 | _ => some r := loopA_eq _ _ _
theorem frame_samples_eq (p0 q0 o0 : Nat) (p1 : SV) (μ : AMem) : frame_samples [.s (.ptr p0 q0 o0), .s p1] μ =
 (lenS (.s p1)).bind fun l1 =>
 seqJ (frame_samples_L1 [.s (.ptr p0 q0 o0), .s p1, .s (.int .i64 ((l1 : Nat) : Int))] [.s (.int .i64 0)] μ)
 (fun _ _ => none)
 (fun vs2 m3 =>
 some (.tuple [], m3))
 (fun d6 vs4 m5 =>
 bif Nat.beq 0 d6 then (some (.tuple [], m5)) else (none)) := by kernel_rfl

noncomputable def G87 : FuncId → FunA := fun _ _ _ => none
def A87 : Ann := .two (.leaf) (.two (.two (.leaf) (.join [] [] [] (.two (.leaf) (.two (.two (.leaf) (.leaf)) (.two (.leaf) (.two (.two (.leaf) (.leaf)) (.two (.leaf) (.two (.two (.leaf) (.leaf)) (.two (.leaf) (.two (.two (.leaf) (.leaf)) (.leaf))))))))) .leaf)) (.two (.leaf) (.leaf)))
def R87 : Slots := [(2, .s)]
noncomputable def fixed_Coefficients : FunA := denF Tryz.prog G87 Tryz.f87 A87 R87
theorem fixed_Coefficients_eq (p0 : Int) (μ : AMem) : fixed_Coefficients [.s (.int .i64 p0)] μ =
 bif (p0 == 1) then
 (some (.s (.slice (μ.next + 0) 0 0 1), ((μ.bump 2).set (μ.next + 0) (rowObj [.int .i64 1] 1 3 (some 1)))))
 else
 (bif (p0 == 2) then
 (some (.s (.slice (μ.next + 0) 0 0 2), ((μ.bump 2).set (μ.next + 0) (rowObj [.int .i64 2, .int .i64 (-1)] 1 3 (some 2)))))
 else
 (bif (p0 == 3) then
 (some (.s (.slice (μ.next + 0) 0 0 3), ((μ.bump 2).set (μ.next + 0) (rowObj [.int .i64 3, .int .i64 (-3), .int .i64 1] 1 3 (some 3)))))
 else
 (bif (p0 == 4) then
 (some (.s (.slice (μ.next + 0) 0 0 4), ((μ.bump 2).set (μ.next + 0) (rowObj [.int .i64 4, .int .i64 (-6), .int .i64 4, .int .i64 (-1)] 1 3 (some 4)))))
 else
 (some (.s .nilSlice, μ))))) := by kernel_rfl

noncomputable def G88 : FuncId → FunA := fun _ _ _ => none
def A88 : Ann := .two (.leaf) (.two (.leaf) (.two (.two (.leaf) (.join [(5, .i .i64)] [] [] (.loop [(5, .i .i64), (10, .i .i64)] [0, 8, 9] [0] (.two (.leaf) (.two (.two (.leaf) (.leaf)) (.two (.join [(0, .s), (5, .i .i64), (8, .s), (9, .i .i64), (10, .i .i64)] [] [] (.two (.leaf) (.leaf)) .leaf) (.leaf))))) .leaf)) (.two (.leaf) (.leaf))))
def R88 : Slots := [(4, .i .i64)]
noncomputable def fixed_guess : FunA := denF Tryz.prog G88 Tryz.f88 A88 R88
noncomputable def fixed_guess_L1_B (os vs : List AV) (μ : AMem) : Option Res := joinK [(5, .i .i64), (10, .i .i64)] vs (envO [0, 8, 9] os) fun e => den Tryz.prog G88 Tryz.f88.ntmps (cL (cL (cR (cL (cR (cR (bodyOf Tryz.f88))))))) (aL (aL (aR (aL (aR (aR A88)))))) { ret := R88, exits := [(0, [(5, .i .i64)])] } Res e μ fun ex e μ => some (ex, valsOf (Lv.at { ret := R88, exits := [(0, [(5, .i .i64)])] } [(5, .i .i64), (10, .i .i64)] ex) e, μ)
noncomputable def fixed_guess_L1 (os vs : List AV) (μ : AMem) : Option Res := loopA (fixed_guess_L1_B os) vs μ
theorem fixed_guess_L1_B_eq (s0 : SV) (s8 : SV) (s9 : Int) (s5 : Int) (s10 : Int) (μ : AMem) : fixed_guess_L1_B [.s s0, .s s8, .s (.int .i64 s9)] [.s (.int .i64 s5), .s (.int .i64 s10)] μ =
 bif decide (s10 < s9) then
 (indS 1 (.s s8) s10 fun p13 =>
 loadAt μ p13 fun v14 =>
 asI .i64 v14 fun n15 =>
 (lenS (.s s0)).bind fun l16 =>
 indS 1 (.s s0) (IntKind.wrap .i64 ((IntKind.wrap .i64 (((l16 : Nat) : Int) - 1)) - s10)) fun p17 =>
 loadAt μ p17 fun v18 =>
 asI .i64 v18 fun n19 =>
 some (.normal, [.s (.int .i64 (IntKind.wrap .i64 (s5 + (IntKind.wrap .i64 (n15 * n19))))), .s (.int .i64 (IntKind.wrap .i64 (s10 + 1)))], μ))
 else
 (some (.exit 0, [.s (.int .i64 s5)], μ)) := by kernel_rfl
theorem fixed_guess_L1_eq (os vs : List AV) (μ : AMem) : fixed_guess_L1 os vs μ = (fixed_guess_L1_B os vs μ).bind fun r => match r.1 with | .normal => fixed_guess_L1 os r.2.1 r.2.2 | _ => some r := loopA_eq _ _ _
theorem fixed_guess_eq (p0 : SV) (p1 : SV) (μ : AMem) : fixed_guess [.s p0, .s p1] μ =
 (lenS (.s p1)).bind fun l1 =>
 seqJ (fixed_guess_L1 [.s p0, .s p1, .s (.int .i64 ((l1 : Nat) : Int))] [.s (.int .i64 0), .s (.int .i64 0)] μ)
 (fun _ _ => none)
 (fun vs2 m3 =>
 headK vs2 fun a7 r8 =>
 asI .i64 a7 fun n9 =>
 some (.s (.int .i64 n9), m3))
 (fun d6 vs4 m5 =>
 bif Nat.beq 0 d6 then (headK vs4 fun a10 r11 =>
 asI .i64 a10 fun n12 =>
 some (.s (.int .i64 n12), m5)) else (none)) := by kernel_rfl

noncomputable def G63 : FuncId → FunA := fun g => bif Nat.beq g 37 then fixed_Check else bif Nat.beq g 87 then fixed_Coefficients else bif Nat.beq g 88 then fixed_guess else fun _ _ => none
theorem G63_37 : G63 37 = fixed_Check := by kernel_rfl
theorem G63_87 : G63 87 = fixed_Coefficients := by kernel_rfl
theorem G63_88 : G63 88 = fixed_guess := by kernel_rfl
def A63 : Ann := .two (.leaf) (.two (.join [(21, .b)] [0, 1] [] (.leaf) (.two (.two (.leaf) (.leaf)) (.leaf))) (.two (.two (.leaf) (.two (.leaf) (.two (.two (.leaf) (.leaf)) (.leaf)))) (.two (.leaf) (.two (.leaf) (.two (.two (.leaf) (.join [(8, .s)] [] [] (.loop [(8, .s), (9, .i .i64)] [0, 7] [0] (.two (.two (.leaf) (.two (.leaf) (.leaf))) (.two (.join [(0, .s), (7, .s), (8, .s), (9, .i .i64)] [] [] (.ord [0, 1, 2, 3, 4, 5, 6, 7, 8, 9, 10, 11, 12, 13]) .leaf) (.leaf)))) .leaf)) (.two (.leaf) (.leaf)))))))
def R63 : Slots := [(4, .s), (5, .i .i64)]
noncomputable def fixed_Residual : FunA := denF Tryz.prog G63 Tryz.f63 A63 R63
noncomputable def fixed_Residual_L1_B (os vs : List AV) (μ : AMem) : Option Res := joinK [(8, .s), (9, .i .i64)] vs (envO [0, 7] os) fun e => den Tryz.prog G63 Tryz.f63.ntmps (cL (cL (cR (cL (cR (cR (cR (cR (cR (bodyOf Tryz.f63)))))))))) (aL (aL (aR (aL (aR (aR (aR (aR (aR A63))))))))) { ret := R63, exits := [(0, [(8, .s)])] } Res e μ fun ex e μ => some (ex, valsOf (Lv.at { ret := R63, exits := [(0, [(8, .s)])] } [(8, .s), (9, .i .i64)] ex) e, μ)
noncomputable def fixed_Residual_L1 (os vs : List AV) (μ : AMem) : Option Res := loopA (fixed_Residual_L1_B os) vs μ
theorem fixed_Residual_L1_B_eq (s0 : SV) (s7 : SV) (s8 : SV) (s9 : Int) (μ : AMem) : fixed_Residual_L1_B [.s s0, .s s7] [.s s8, .s (.int .i64 s9)] μ =
 (lenS (.s s0)).bind fun l36 =>
 bif decide (s9 < ((l36 : Nat) : Int)) then
 (indS 1 (.s s0) s9 fun p37 =>
 loadAt (μ.bump 14) p37 fun v38 =>
 asI .i64 v38 fun n39 =>
 cutS 1 (.s s0) 0 s9 fun x40 =>
 (fixed_guess [x40, .s s7] (μ.bump 14)).bind fun r41 =>
 asI .i64 r41.1 fun n42 =>
 checkA ((loadAt r41.2 p37 some) = some (.s (.int .i64 n39)))
 (checkA (r41.2.obj (μ.next + 11) = none)
 (appendA 3 1 8 (μ.next + 12) (r41.2.set (μ.next + 11) (rowObj [.int .i64 (IntKind.wrap .i64 (n39 - n42))] 1 3 (some 1))) (.s s8) (.s (.slice (μ.next + 11) 0 0 1)) fun x43 m44 =>
 asS x43 fun x45 =>
 some (.normal, [.s x45, .s (.int .i64 (IntKind.wrap .i64 (s9 + 1)))], m44))))
 else
 (some (.exit 0, [.s s8], μ)) := by rw [← G63_88]; kernel_rfl
theorem fixed_Residual_L1_eq (os vs : List AV) (μ : AMem) : fixed_Residual_L1 os vs μ = (fixed_Residual_L1_B os vs μ).bind fun r => match r.1 with | .normal => fixed_Residual_L1 os r.2.1 r.2.2 | _ => some r := loopA_eq _ _ _
theorem fixed_Residual_eq (p0 : SV) (p1 : Int) (μ : AMem) : fixed_Residual [.s p0, .s (.int .i64 p1)] μ =
 seqJ
 (bif !(decide (p1 < 0)) then
 (bif !(decide (p1 > 4)) then
 ((lenS (.s p0)).bind fun l1 =>
 some (.normal, [.s (.bool (decide (p1 > ((l1 : Nat) : Int))))], μ))
 else
 (some (.normal, [.s (.bool true)], μ)))
 else
 (some (.normal, [.s (.bool true)], μ)))
 (fun vs2 m3 =>
 headK vs2 fun a4 r5 =>
 asB a4 fun b6 =>
 bif b6 then
 (some (.tuple [.s .nilSlice, .s (.int .i64 1)], m3))
 else
 ((fixed_Check [.s p0] m3).bind fun r7 =>
 asI .i64 r7.1 fun n8 =>
 bif (n8 != 0) then
 (some (.tuple [.s .nilSlice, .s (.int .i64 n8)], r7.2))
 else
 ((fixed_Coefficients [.s (.int .i64 p1)] r7.2).bind fun r9 =>
 asS r9.1 fun x10 =>
 seqJ (fixed_Residual_L1 [.s p0, .s x10] [.s .nilSlice, .s (.int .i64 p1)] r9.2)
 (fun _ _ => none)
 (fun vs11 m12 =>
 headK vs11 fun a16 r17 =>
 asS a16 fun x18 =>
 headK r17 fun a19 r20 =>
 asI .i64 a19 fun n21 =>
 some (.tuple [.s x18, .s (.int .i64 n21)], m12))
 (fun d15 vs13 m14 =>
 bif Nat.beq 0 d15 then (headK vs13 fun a22 r23 =>
 asS a22 fun x24 =>
 some (.tuple [.s x24, .s (.int .i64 0)], m14)) else (none)))))
 (fun vs25 m26 =>
 headK vs25 fun a30 r31 =>
 asS a30 fun x32 =>
 headK r31 fun a33 r34 =>
 asI .i64 a33 fun n35 =>
 some (.tuple [.s x32, .s (.int .i64 n35)], m26))
 (fun d29 vs27 m28 =>
 none) := by rw [← G63_37, ← G63_87]; kernel_rfl

noncomputable def G89 : FuncId → FunA := fun _ _ _ => none
def A89 : Ann := .two (.leaf) (.two (.join [(0, .i .i64)] [] [] (.join [(3, .b)] [0] [] (.leaf) (.two (.two (.leaf) (.leaf)) (.two (.leaf) (.two (.two (.leaf) (.leaf)) (.leaf))))) .leaf) (.two (.leaf) (.leaf)))
def R89 : Slots := [(2, .i .i64)]
noncomputable def rice_Zig : FunA := denF Tryz.prog G89 Tryz.f89 A89 R89
theorem rice_Zig_eq (p0 : Int) (μ : AMem) : rice_Zig [.s (.int .i64 p0)] μ =
 seqJ
 (bif !(decide (p0 < (-1099511627776))) then
 (some (.normal, [.s (.bool (decide (p0 ≥ 1099511627776)))], μ))
 else
 (some (.normal, [.s (.bool true)], μ)))
 (fun vs1 m2 =>
 headK vs1 fun a3 r4 =>
 asB a3 fun b5 =>
 bif b5 then
 (some (.s (.int .i64 0), m2))
 else
 (bif decide (p0 < 0) then
 (some (.s (.int .i64 (IntKind.wrap .i64 ((IntKind.wrap .i64 ((-2) * p0)) - 1))), m2))
 else
 (some (.s (.int .i64 (IntKind.wrap .i64 (2 * p0))), m2))))
 (fun vs6 m7 =>
 headK vs6 fun a11 r12 =>
 asI .i64 a11 fun n13 =>
 some (.s (.int .i64 n13), m7))
 (fun d10 vs8 m9 =>
 none) := by kernel_rfl

noncomputable def G112 : FuncId → FunA := fun _ _ _ => none
def A112 : Ann := .two (.leaf) (.two (.leaf) (.leaf))
def R112 : Slots := [(4, .b)]
noncomputable def rice_may : FunA := denF Tryz.prog G112 Tryz.f112 A112 R112
theorem rice_may_eq (p0 : Int) (p1 : Int) (μ : AMem) : rice_may [.s (.int .i64 p0), .s (.int .i64 p1)] μ =
 bif decide (p0 ≥ 0) then
 (bif decide (p0 < 4294967296) then
 (bif decide (p1 ≥ 0) then
 (some (.s (.bool (decide (p1 ≤ 24))), μ))
 else
 (some (.s (.bool false), μ)))
 else
 (some (.s (.bool false), μ)))
 else
 (some (.s (.bool false), μ)) := by kernel_rfl

noncomputable def G113 : FuncId → FunA := fun g => bif Nat.beq g 112 then rice_may else fun _ _ => none
theorem G113_112 : G113 112 = rice_may := by kernel_rfl
def A113 : Ann := .two (.leaf) (.two (.join [] [] [] (.two (.leaf) (.two (.two (.leaf) (.leaf)) (.two (.leaf) (.two (.two (.leaf) (.leaf)) (.leaf))))) .leaf) (.two (.leaf) (.leaf)))
def R113 : Slots := [(4, .i .i64)]
noncomputable def rice_Size : FunA := denF Tryz.prog G113 Tryz.f113 A113 R113
theorem rice_Size_eq (p0 : Int) (p1 : Int) (μ : AMem) : rice_Size [.s (.int .i64 p0), .s (.int .i64 p1)] μ =
 (rice_may [.s (.int .i64 p0), .s (.int .i64 p1)] μ).bind fun r1 =>
 asB r1.1 fun b2 =>
 bif (!b2) then
 (some (.s (.int .i64 0), r1.2))
 else
 (if p1 < 0 then none else
 (bif decide ((Int.fdiv p0 (2 ^ (min (Int.toNat p1) (IntKind.bits .i64)))) < 24) then
 (if p1 < 0 then none else
 (some (.s (.int .i64 (IntKind.wrap .i64 ((IntKind.wrap .i64 ((Int.fdiv p0 (2 ^ (min (Int.toNat p1) (IntKind.bits .i64)))) + 1)) + p1))), r1.2)))
 else
 (some (.s (.int .i64 56), r1.2)))) := by rw [← G113_112]; kernel_rfl

noncomputable def G90 : FuncId → FunA := fun g => bif Nat.beq g 112 then rice_may else bif Nat.beq g 113 then rice_Size else fun _ _ => none
theorem G90_112 : G90 112 = rice_may := by kernel_rfl
theorem G90_113 : G90 113 = rice_Size := by kernel_rfl
def A90 : Ann := .two (.leaf) (.two (.two (.leaf) (.join [(0, .s), (2, .i .i64), (3, .i .i64)] [] [] (.loop [(2, .i .i64), (3, .i .i64), (12, .i .i64)] [0, 10, 11] [0] (.two (.leaf) (.two (.two (.leaf) (.leaf)) (.two (.join [(0, .s), (2, .i .i64), (3, .i .i64), (10, .s), (11, .i .i64), (12, .i .i64)] [] [] (.two (.leaf) (.two (.leaf) (.two (.two (.leaf) (.leaf)) (.leaf)))) .leaf) (.leaf))))) .leaf)) (.two (.two (.leaf) (.join [(2, .i .i64), (3, .i .i64)] [] [] (.loop [(2, .i .i64), (3, .i .i64), (20, .i .i64)] [0] [2] (.two (.leaf) (.two (.two (.leaf) (.leaf)) (.join [(2, .i .i64), (3, .i .i64)] [0, 20] [] (.join [(0, .s), (2, .i .i64), (3, .i .i64), (20, .i .i64)] [] [] (.two (.leaf) (.two (.leaf) (.two (.two (.leaf) (.join [(0, .s), (2, .i .i64), (3, .i .i64), (6, .i .i64), (7, .i .i64), (20, .i .i64)] [] [] (.loop [(7, .i .i64), (25, .i .i64)] [0, 2, 3, 6, 20, 23, 24] [4] (.two (.leaf) (.two (.two (.leaf) (.leaf)) (.two (.join [(0, .s), (2, .i .i64), (3, .i .i64), (6, .i .i64), (7, .i .i64), (20, .i .i64), (23, .s), (24, .i .i64), (25, .i .i64)] [] [] (.two (.leaf) (.leaf)) .leaf) (.leaf))))) .leaf)) (.join [(41, .b)] [0, 2, 3, 6, 7, 20] [] (.leaf) (.two (.leaf) (.leaf)))))) .leaf) (.leaf))))) .leaf)) (.two (.leaf) (.leaf))))
def R90 : Slots := [(2, .i .i64), (3, .i .i64)]
noncomputable def rice_Best : FunA := denF Tryz.prog G90 Tryz.f90 A90 R90
noncomputable def rice_Best_L3_B (os vs : List AV) (μ : AMem) : Option Res := joinK [(7, .i .i64), (25, .i .i64)] vs (envO [0, 2, 3, 6, 20, 23, 24] os) fun e => den Tryz.prog G90 Tryz.f90.ntmps (cL (cL (cR (cL (cR (cR (cL (cL (cR (cR (cL (cL (cR (cL (cR (cR (bodyOf Tryz.f90))))))))))))))))) (aL (aL (aR (aL (aR (aR (aL (aL (aR (aR (aL (aL (aR (aL (aR (aR A90)))))))))))))))) { ret := R90, exits := [(4, [(0, .s), (2, .i .i64), (3, .i .i64), (6, .i .i64), (7, .i .i64), (20, .i .i64)]), (3, [(0, .s), (2, .i .i64), (3, .i .i64), (20, .i .i64)]), (2, [(2, .i .i64), (3, .i .i64)])] } Res e μ fun ex e μ => some (ex, valsOf (Lv.at { ret := R90, exits := [(4, [(0, .s), (2, .i .i64), (3, .i .i64), (6, .i .i64), (7, .i .i64), (20, .i .i64)]), (3, [(0, .s), (2, .i .i64), (3, .i .i64), (20, .i .i64)]), (2, [(2, .i .i64), (3, .i .i64)])] } [(7, .i .i64), (25, .i .i64)] ex) e, μ)
noncomputable def rice_Best_L3 (os vs : List AV) (μ : AMem) : Option Res := loopA (rice_Best_L3_B os) vs μ
noncomputable def rice_Best_L2_B (os vs : List AV) (μ : AMem) : Option Res := joinK [(2, .i .i64), (3, .i .i64), (20, .i .i64)] vs (envO [0] os) fun e => den Tryz.prog G90 Tryz.f90.ntmps (cL (cL (cR (cL (cR (cR (bodyOf Tryz.f90))))))) (aL (aL (aR (aL (aR (aR A90)))))) { ret := R90, exits := [(2, [(2, .i .i64), (3, .i .i64)])] } Res e μ fun ex e μ => some (ex, valsOf (Lv.at { ret := R90, exits := [(2, [(2, .i .i64), (3, .i .i64)])] } [(2, .i .i64), (3, .i .i64), (20, .i .i64)] ex) e, μ)
noncomputable def rice_Best_L2 (os vs : List AV) (μ : AMem) : Option Res := loopA (rice_Best_L2_B os) vs μ
noncomputable def rice_Best_L1_B (os vs : List AV) (μ : AMem) : Option Res := joinK [(2, .i .i64), (3, .i .i64), (12, .i .i64)] vs (envO [0, 10, 11] os) fun e => den Tryz.prog G90 Tryz.f90.ntmps (cL (cL (cR (cL (cR (bodyOf Tryz.f90)))))) (aL (aL (aR (aL (aR A90))))) { ret := R90, exits := [(0, [(0, .s), (2, .i .i64), (3, .i .i64)])] } Res e μ fun ex e μ => some (ex, valsOf (Lv.at { ret := R90, exits := [(0, [(0, .s), (2, .i .i64), (3, .i .i64)])] } [(2, .i .i64), (3, .i .i64), (12, .i .i64)] ex) e, μ)
noncomputable def rice_Best_L1 (os vs : List AV) (μ : AMem) : Option Res := loopA (rice_Best_L1_B os) vs μ
theorem rice_Best_L3_B_eq (s0 : SV) (s2 : Int) (s3 : Int) (s6 : Int) (s20 : Int) (s23 : SV) (s24 : Int) (s7 : Int) (s25 : Int) (μ : AMem) : rice_Best_L3_B [.s s0, .s (.int .i64 s2), .s (.int .i64 s3), .s (.int .i64 s6), .s (.int .i64 s20), .s s23, .s (.int .i64 s24)] [.s (.int .i64 s7), .s (.int .i64 s25)] μ =
 bif decide (s25 < s24) then
 (indS 1 (.s s23) s25 fun p109 =>
 loadAt μ p109 fun v110 =>
 asI .i64 v110 fun n111 =>
 (rice_Size [.s (.int .i64 n111), .s (.int .i64 s6)] μ).bind fun r112 =>
 asI .i64 r112.1 fun n113 =>
 some (.normal, [.s (.int .i64 (IntKind.wrap .i64 (s7 + n113))), .s (.int .i64 (IntKind.wrap .i64 (s25 + 1)))], r112.2))
 else
 (some (.exit 4, [.s s0, .s (.int .i64 s2), .s (.int .i64 s3), .s (.int .i64 s6), .s (.int .i64 s7), .s (.int .i64 s20)], μ)) := by rw [← G90_113]; kernel_rfl
theorem rice_Best_L3_eq (os vs : List AV) (μ : AMem) : rice_Best_L3 os vs μ = (rice_Best_L3_B os vs μ).bind fun r => match r.1 with | .normal => rice_Best_L3 os r.2.1 r.2.2 | _ => some r := loopA_eq _ _ _
theorem rice_Best_L2_B_eq (s0 : SV) (s2 : Int) (s3 : Int) (s20 : Int) (μ : AMem) : rice_Best_L2_B [.s s0] [.s (.int .i64 s2), .s (.int .i64 s3), .s (.int .i64 s20)] μ =
 bif decide (s20 < 25) then
 (seqJ
 ((lenS (.s s0)).bind fun l44 =>
 seqJ (rice_Best_L3 [.s s0, .s (.int .i64 s2), .s (.int .i64 s3), .s (.int .i64 s20), .s (.int .i64 s20), .s s0, .s (.int .i64 ((l44 : Nat) : Int))] [.s (.int .i64 0), .s (.int .i64 0)] μ)
 (fun _ _ => none)
 (fun vs45 m46 =>
 headK vs45 fun a50 r51 =>
 asI .i64 a50 fun n52 =>
 headK r51 fun a53 r54 =>
 asI .i64 a53 fun n55 =>
 some (.ret, [.s (.int .i64 n52), .s (.int .i64 n55)], m46))
 (fun d49 vs47 m48 =>
 bif Nat.beq 4 d49 then (headK vs47 fun a56 r57 =>
 asS a56 fun x58 =>
 headK r57 fun a59 r60 =>
 asI .i64 a59 fun n61 =>
 headK r60 fun a62 r63 =>
 asI .i64 a62 fun n64 =>
 headK r63 fun a65 r66 =>
 asI .i64 a65 fun n67 =>
 headK r66 fun a68 r69 =>
 asI .i64 a68 fun n70 =>
 headK r69 fun a71 r72 =>
 asI .i64 a71 fun n73 =>
 seqJ
 (bif !(n67 == 0) then
 (some (.normal, [.s (.bool (decide (n70 < n64)))], m48))
 else
 (some (.normal, [.s (.bool true)], m48)))
 (fun vs74 m75 =>
 headK vs74 fun a76 r77 =>
 asB a76 fun b78 =>
 bif b78 then
 (some (.normal, [.s (.int .i64 n67), .s (.int .i64 n70)], m75))
 else
 (some (.normal, [.s (.int .i64 n61), .s (.int .i64 n64)], m75)))
 (fun vs79 m80 =>
 headK vs79 fun a84 r85 =>
 asI .i64 a84 fun n86 =>
 headK r85 fun a87 r88 =>
 asI .i64 a87 fun n89 =>
 some (.ret, [.s (.int .i64 n86), .s (.int .i64 n89)], m80))
 (fun d83 vs81 m82 =>
 none)) else (none)))
 (fun vs90 m91 =>
 headK vs90 fun a92 r93 =>
 asI .i64 a92 fun n94 =>
 headK r93 fun a95 r96 =>
 asI .i64 a95 fun n97 =>
 some (.normal, [.s (.int .i64 n94), .s (.int .i64 n97), .s (.int .i64 (IntKind.wrap .i64 (s20 + 1)))], m91))
 (fun vs98 m99 =>
 headK vs98 fun a103 r104 =>
 asI .i64 a103 fun n105 =>
 headK r104 fun a106 r107 =>
 asI .i64 a106 fun n108 =>
 some (.ret, [.s (.int .i64 n105), .s (.int .i64 n108)], m99))
 (fun d102 vs100 m101 =>
 none))
 else
 (some (.exit 2, [.s (.int .i64 s2), .s (.int .i64 s3)], μ)) := by kernel_rfl
theorem rice_Best_L2_eq (os vs : List AV) (μ : AMem) : rice_Best_L2 os vs μ = (rice_Best_L2_B os vs μ).bind fun r => match r.1 with | .normal => rice_Best_L2 os r.2.1 r.2.2 | _ => some r := loopA_eq _ _ _
theorem rice_Best_L1_B_eq (s0 : SV) (s10 : SV) (s11 : Int) (s2 : Int) (s3 : Int) (s12 : Int) (μ : AMem) : rice_Best_L1_B [.s s0, .s s10, .s (.int .i64 s11)] [.s (.int .i64 s2), .s (.int .i64 s3), .s (.int .i64 s12)] μ =
 bif decide (s12 < s11) then
 (indS 1 (.s s10) s12 fun p39 =>
 loadAt μ p39 fun v40 =>
 asI .i64 v40 fun n41 =>
 (rice_may [.s (.int .i64 n41), .s (.int .i64 0)] μ).bind fun r42 =>
 asB r42.1 fun b43 =>
 bif (!b43) then
 (some (.ret, [.s (.int .i64 0), .s (.int .i64 0)], r42.2))
 else
 (some (.normal, [.s (.int .i64 s2), .s (.int .i64 s3), .s (.int .i64 (IntKind.wrap .i64 (s12 + 1)))], r42.2)))
 else
 (some (.exit 0, [.s s0, .s (.int .i64 s2), .s (.int .i64 s3)], μ)) := by rw [← G90_112]; kernel_rfl
theorem rice_Best_L1_eq (os vs : List AV) (μ : AMem) : rice_Best_L1 os vs μ = (rice_Best_L1_B os vs μ).bind fun r => match r.1 with | .normal => rice_Best_L1 os r.2.1 r.2.2 | _ => some r := loopA_eq _ _ _
theorem rice_Best_eq (p0 : SV) (μ : AMem) : rice_Best [.s p0] μ =
 (lenS (.s p0)).bind fun l1 =>
 seqJ (rice_Best_L1 [.s p0, .s p0, .s (.int .i64 ((l1 : Nat) : Int))] [.s (.int .i64 0), .s (.int .i64 0), .s (.int .i64 0)] μ)
 (fun _ _ => none)
 (fun vs2 m3 =>
 headK vs2 fun a7 r8 =>
 asI .i64 a7 fun n9 =>
 headK r8 fun a10 r11 =>
 asI .i64 a10 fun n12 =>
 some (.tuple [.s (.int .i64 n9), .s (.int .i64 n12)], m3))
 (fun d6 vs4 m5 =>
 bif Nat.beq 0 d6 then (headK vs4 fun a13 r14 =>
 asS a13 fun x15 =>
 headK r14 fun a16 r17 =>
 asI .i64 a16 fun n18 =>
 headK r17 fun a19 r20 =>
 asI .i64 a19 fun n21 =>
 seqJ (rice_Best_L2 [.s x15] [.s (.int .i64 n18), .s (.int .i64 n21), .s (.int .i64 0)] m5)
 (fun _ _ => none)
 (fun vs22 m23 =>
 headK vs22 fun a27 r28 =>
 asI .i64 a27 fun n29 =>
 headK r28 fun a30 r31 =>
 asI .i64 a30 fun n32 =>
 some (.tuple [.s (.int .i64 n29), .s (.int .i64 n32)], m23))
 (fun d26 vs24 m25 =>
 bif Nat.beq 2 d26 then (headK vs24 fun a33 r34 =>
 asI .i64 a33 fun n35 =>
 headK r34 fun a36 r37 =>
 asI .i64 a36 fun n38 =>
 some (.tuple [.s (.int .i64 n35), .s (.int .i64 n38)], m25)) else (none))) else (none)) := by kernel_rfl

noncomputable def G114 : FuncId → FunA := fun g => bif Nat.beq g 86 then bits_Writer_put else fun _ _ => none
theorem G114_86 : G114 86 = bits_Writer_put := by kernel_rfl
def A114 : Ann := .two (.leaf) (.two (.join [(10, .b)] [0, 1] [] (.leaf) (.two (.two (.leaf) (.leaf)) (.leaf))) (.two (.two (.leaf) (.join [(0, .s)] [] [] (.loop [(12, .i .i64)] [0, 11] [0] (.two (.leaf) (.two (.two (.leaf) (.leaf)) (.two (.join [(0, .s), (11, .i .i64), (12, .i .i64)] [] [] (.leaf) .leaf) (.leaf))))) .leaf)) (.two (.leaf) (.two (.leaf) (.leaf)))))
def R114 : Slots := [(4, .b)]
noncomputable def bits_Writer_Ones : FunA := denF Tryz.prog G114 Tryz.f114 A114 R114
noncomputable def bits_Writer_Ones_L1_B (os vs : List AV) (μ : AMem) : Option Res := joinK [(12, .i .i64)] vs (envO [0, 11] os) fun e => den Tryz.prog G114 Tryz.f114.ntmps (cL (cL (cR (cL (cR (cR (bodyOf Tryz.f114))))))) (aL (aL (aR (aL (aR (aR A114)))))) { ret := R114, exits := [(0, [(0, .s)])] } Res e μ fun ex e μ => some (ex, valsOf (Lv.at { ret := R114, exits := [(0, [(0, .s)])] } [(12, .i .i64)] ex) e, μ)
noncomputable def bits_Writer_Ones_L1 (os vs : List AV) (μ : AMem) : Option Res := loopA (bits_Writer_Ones_L1_B os) vs μ
theorem bits_Writer_Ones_L1_B_eq (s0 t0 u0 : Nat) (s11 : Int) (s12 : Int) (μ : AMem) : bits_Writer_Ones_L1_B [.s (.ptr s0 t0 u0), .s (.int .i64 s11)] [.s (.int .i64 s12)] μ =
 bif decide (s12 < s11) then
 ((bits_Writer_put [.s (.ptr s0 t0 u0), .s (.bool true)] μ).bind fun r26 =>
 some (.normal, [.s (.int .i64 (IntKind.wrap .i64 (s12 + 1)))], r26.2))
 else
 (some (.exit 0, [.s (.ptr s0 t0 u0)], μ)) := by rw [← G114_86]; kernel_rfl
theorem bits_Writer_Ones_L1_eq (os vs : List AV) (μ : AMem) : bits_Writer_Ones_L1 os vs μ = (bits_Writer_Ones_L1_B os vs μ).bind fun r => match r.1 with | .normal => bits_Writer_Ones_L1 os r.2.1 r.2.2 | _ => some r := loopA_eq _ _ _
theorem bits_Writer_Ones_eq (p0 q0 o0 : Nat) (p1 : Int) (μ : AMem) : bits_Writer_Ones [.s (.ptr p0 q0 o0), .s (.int .i64 p1)] μ =
 seqJ
 (bif !(decide (p1 < 0)) then
 (some (.normal, [.s (.bool (decide (p1 > 1024)))], μ))
 else
 (some (.normal, [.s (.bool true)], μ)))
 (fun vs1 m2 =>
 headK vs1 fun a3 r4 =>
 asB a3 fun b5 =>
 bif b5 then
 (some (.s (.bool false), m2))
 else
 (seqJ (bits_Writer_Ones_L1 [.s (.ptr p0 q0 o0), .s (.int .i64 p1)] [.s (.int .i64 0)] m2)
 (fun _ _ => none)
 (fun vs6 m7 =>
 headK vs6 fun a11 r12 =>
 asB a11 fun b13 =>
 some (.s (.bool b13), m7))
 (fun d10 vs8 m9 =>
 bif Nat.beq 0 d10 then (headK vs8 fun a14 r15 =>
 asS a14 fun x16 =>
 (bits_Writer_put [.s x16, .s (.bool false)] m9).bind fun r17 =>
 some (.s (.bool true), r17.2)) else (none))))
 (fun vs18 m19 =>
 headK vs18 fun a23 r24 =>
 asB a23 fun b25 =>
 some (.s (.bool b25), m19))
 (fun d22 vs20 m21 =>
 none) := by rw [← G114_86]; kernel_rfl

noncomputable def G91 : FuncId → FunA := fun g => bif Nat.beq g 112 then rice_may else bif Nat.beq g 114 then bits_Writer_Ones else bif Nat.beq g 61 then bits_Writer_Put else fun _ _ => none
theorem G91_112 : G91 112 = rice_may := by kernel_rfl
theorem G91_114 : G91 114 = bits_Writer_Ones := by kernel_rfl
theorem G91_61 : G91 61 = bits_Writer_Put := by kernel_rfl
def A91 : Ann := .two (.leaf) (.two (.two (.leaf) (.two (.two (.leaf) (.leaf)) (.leaf))) (.two (.leaf) (.two (.two (.leaf) (.two (.two (.leaf) (.two (.leaf) (.two (.leaf) (.leaf)))) (.leaf))) (.two (.leaf) (.two (.leaf) (.two (.leaf) (.leaf)))))))
def R91 : Slots := [(6, .b)]
noncomputable def rice_Put : FunA := denF Tryz.prog G91 Tryz.f91 A91 R91
theorem rice_Put_eq (p0 q0 o0 : Nat) (p1 : Int) (p2 : Int) (μ : AMem) : rice_Put [.s (.ptr p0 q0 o0), .s (.int .i64 p1), .s (.int .i64 p2)] μ =
 (rice_may [.s (.int .i64 p1), .s (.int .i64 p2)] μ).bind fun r1 =>
 asB r1.1 fun b2 =>
 bif (!b2) then
 (some (.s (.bool false), r1.2))
 else
 (if p2 < 0 then none else
 (bif decide ((Int.fdiv p1 (2 ^ (min (Int.toNat p2) (IntKind.bits .i64)))) < 24) then
 ((bits_Writer_Ones [.s (.ptr p0 q0 o0), .s (.int .i64 (Int.fdiv p1 (2 ^ (min (Int.toNat p2) (IntKind.bits .i64)))))] r1.2).bind fun r3 =>
 asB r3.1 fun b4 =>
 (bits_Writer_Put [.s (.ptr p0 q0 o0), .s (.int .i64 p1), .s (.int .i64 p2)] r3.2).bind fun r5 =>
 asB r5.1 fun b6 =>
 some (.s (.bool true), r5.2))
 else
 ((bits_Writer_Put [.s (.ptr p0 q0 o0), .s (.int .i64 16777215), .s (.int .i64 24)] r1.2).bind fun r7 =>
 asB r7.1 fun b8 =>
 (bits_Writer_Put [.s (.ptr p0 q0 o0), .s (.int .i64 p1), .s (.int .i64 32)] r7.2).bind fun r9 =>
 asB r9.1 fun b10 =>
 some (.s (.bool true), r9.2)))) := by rw [← G91_112, ← G91_114, ← G91_61]; kernel_rfl

noncomputable def G64 : FuncId → FunA := fun g => bif Nat.beq g 89 then rice_Zig else bif Nat.beq g 90 then rice_Best else bif Nat.beq g 61 then bits_Writer_Put else bif Nat.beq g 91 then rice_Put else fun _ _ => none
theorem G64_89 : G64 89 = rice_Zig := by kernel_rfl
theorem G64_90 : G64 90 = rice_Best := by kernel_rfl
theorem G64_61 : G64 61 = bits_Writer_Put := by kernel_rfl
theorem G64_91 : G64 91 = rice_Put := by kernel_rfl
def A64 : Ann := .two (.leaf) (.two (.leaf) (.two (.two (.leaf) (.join [(0, .s), (5, .s)] [] [] (.loop [(5, .s), (14, .i .i64)] [0, 12, 13] [0] (.two (.leaf) (.two (.two (.leaf) (.leaf)) (.two (.join [(0, .s), (5, .s), (12, .s), (13, .i .i64), (14, .i .i64)] [] [] (.two (.leaf) (.leaf)) .leaf) (.leaf))))) .leaf)) (.two (.leaf) (.two (.leaf) (.two (.two (.leaf) (.join [] [] [] (.loop [(34, .i .i64)] [0, 8, 32, 33] [2] (.two (.leaf) (.two (.two (.leaf) (.leaf)) (.two (.join [(0, .s), (8, .i .i64), (32, .s), (33, .i .i64), (34, .i .i64)] [] [] (.two (.leaf) (.two (.leaf) (.two (.two (.leaf) (.leaf)) (.leaf)))) .leaf) (.leaf))))) .leaf)) (.two (.leaf) (.leaf)))))))
def R64 : Slots := [(4, .b)]
noncomputable def frame_residuals : FunA := denF Tryz.prog G64 Tryz.f64 A64 R64
noncomputable def frame_residuals_L2_B (os vs : List AV) (μ : AMem) : Option Res := joinK [(34, .i .i64)] vs (envO [0, 8, 32, 33] os) fun e => den Tryz.prog G64 Tryz.f64.ntmps (cL (cL (cR (cL (cR (cR (cR (cR (cR (bodyOf Tryz.f64)))))))))) (aL (aL (aR (aL (aR (aR (aR (aR (aR A64))))))))) { ret := R64, exits := [(2, [])] } Res e μ fun ex e μ => some (ex, valsOf (Lv.at { ret := R64, exits := [(2, [])] } [(34, .i .i64)] ex) e, μ)
noncomputable def frame_residuals_L2 (os vs : List AV) (μ : AMem) : Option Res := loopA (frame_residuals_L2_B os) vs μ
noncomputable def frame_residuals_L1_B (os vs : List AV) (μ : AMem) : Option Res := joinK [(5, .s), (14, .i .i64)] vs (envO [0, 12, 13] os) fun e => den Tryz.prog G64 Tryz.f64.ntmps (cL (cL (cR (cL (cR (cR (bodyOf Tryz.f64))))))) (aL (aL (aR (aL (aR (aR A64)))))) { ret := R64, exits := [(0, [(0, .s), (5, .s)])] } Res e μ fun ex e μ => some (ex, valsOf (Lv.at { ret := R64, exits := [(0, [(0, .s), (5, .s)])] } [(5, .s), (14, .i .i64)] ex) e, μ)
noncomputable def frame_residuals_L1 (os vs : List AV) (μ : AMem) : Option Res := loopA (frame_residuals_L1_B os) vs μ
theorem frame_residuals_L2_B_eq (s0 : SV) (s8 : Int) (s32 : SV) (s33 : Int) (s34 : Int) (μ : AMem) : frame_residuals_L2_B [.s s0, .s (.int .i64 s8), .s s32, .s (.int .i64 s33)] [.s (.int .i64 s34)] μ =
 bif decide (s34 < s33) then
 (indS 1 (.s s32) s34 fun p40 =>
 loadAt μ p40 fun v41 =>
 asI .i64 v41 fun n42 =>
 (rice_Put [.s s0, .s (.int .i64 n42), .s (.int .i64 s8)] μ).bind fun r43 =>
 asB r43.1 fun b44 =>
 bif (!b44) then
 (some (.ret, [.s (.bool false)], r43.2))
 else
 (some (.normal, [.s (.int .i64 (IntKind.wrap .i64 (s34 + 1)))], r43.2)))
 else
 (some (.exit 2, [], μ)) := by rw [← G64_91]; kernel_rfl
theorem frame_residuals_L2_eq (os vs : List AV) (μ : AMem) : frame_residuals_L2 os vs μ = (frame_residuals_L2_B os vs μ).bind fun r => match r.1 with | .normal => frame_residuals_L2 os r.2.1 r.2.2 | _ => some r := loopA_eq _ _ _
theorem frame_residuals_L1_B_eq (s0 t0 u0 : Nat) (s12 : SV) (s13 : Int) (s5 : SV) (s14 : Int) (μ : AMem) : frame_residuals_L1_B [.s (.ptr s0 t0 u0), .s s12, .s (.int .i64 s13)] [.s s5, .s (.int .i64 s14)] μ =
 bif decide (s14 < s13) then
 (indS 1 (.s s12) s14 fun p32 =>
 loadAt μ p32 fun v33 =>
 asI .i64 v33 fun n34 =>
 (rice_Zig [.s (.int .i64 n34)] (μ.bump 6)).bind fun r35 =>
 asI .i64 r35.1 fun n36 =>
 appendA 3 1 8 (μ.next + 4) (r35.2.set (μ.next + 3) (rowObj [.int .i64 n36] 1 3 (some 1))) (.s s5) (.s (.slice (μ.next + 3) 0 0 1)) fun x37 m38 =>
 asS x37 fun x39 =>
 some (.normal, [.s x39, .s (.int .i64 (IntKind.wrap .i64 (s14 + 1)))], m38))
 else
 (some (.exit 0, [.s (.ptr s0 t0 u0), .s s5], μ)) := by rw [← G64_89]; kernel_rfl
theorem frame_residuals_L1_eq (os vs : List AV) (μ : AMem) : frame_residuals_L1 os vs μ = (frame_residuals_L1_B os vs μ).bind fun r => match r.1 with | .normal => frame_residuals_L1 os r.2.1 r.2.2 | _ => some r := loopA_eq _ _ _
theorem frame_residuals_eq (p0 q0 o0 : Nat) (p1 : SV) (μ : AMem) : frame_residuals [.s (.ptr p0 q0 o0), .s p1] μ =
 (lenS (.s p1)).bind fun l1 =>
 seqJ (frame_residuals_L1 [.s (.ptr p0 q0 o0), .s p1, .s (.int .i64 ((l1 : Nat) : Int))] [.s .nilSlice, .s (.int .i64 0)] μ)
 (fun _ _ => none)
 (fun vs2 m3 =>
 headK vs2 fun a7 r8 =>
 asB a7 fun b9 =>
 some (.s (.bool b9), m3))
 (fun d6 vs4 m5 =>
 bif Nat.beq 0 d6 then (headK vs4 fun a10 r11 =>
 asS a10 fun x12 =>
 headK r11 fun a13 r14 =>
 asS a13 fun x15 =>
 (rice_Best [.s x15] m5).bind fun r16 =>
 extrK 0 r16.1 fun t17 =>
 asI .i64 t17 fun n18 =>
 extrK 1 r16.1 fun t19 =>
 asI .i64 t19 fun n20 =>
 (bits_Writer_Put [.s x12, .s (.int .i64 n18), .s (.int .i64 5)] r16.2).bind fun r21 =>
 asB r21.1 fun b22 =>
 (lenS (.s x15)).bind fun l23 =>
 seqJ (frame_residuals_L2 [.s x12, .s (.int .i64 n18), .s x15, .s (.int .i64 ((l23 : Nat) : Int))] [.s (.int .i64 0)] r21.2)
 (fun _ _ => none)
 (fun vs24 m25 =>
 headK vs24 fun a29 r30 =>
 asB a29 fun b31 =>
 some (.s (.bool b31), m25))
 (fun d28 vs26 m27 =>
 bif Nat.beq 2 d28 then (some (.s (.bool true), m27)) else (none))) else (none)) := by rw [← G64_90, ← G64_61]; kernel_rfl

noncomputable def G115 : FuncId → FunA := fun g => bif Nat.beq g 37 then fixed_Check else fun _ _ => none
theorem G115_37 : G115 37 = fixed_Check := by kernel_rfl
def A115 : Ann := .two (.leaf) (.two (.join [(16, .b)] [0, 1] [] (.leaf) (.two (.two (.leaf) (.leaf)) (.leaf))) (.two (.two (.leaf) (.two (.leaf) (.two (.two (.leaf) (.leaf)) (.leaf)))) (.two (.leaf) (.two (.two (.leaf) (.join [(7, .s)] [] [] (.loop [(7, .s), (24, .i .i64)] [0, 23] [0] (.two (.leaf) (.two (.two (.leaf) (.leaf)) (.two (.join [(0, .s), (7, .s), (23, .i .i64), (24, .i .i64)] [] [] (.two (.leaf) (.two (.leaf) (.two (.two (.leaf) (.join [(0, .s), (7, .s), (9, .i .i64), (23, .i .i64), (24, .i .i64)] [] [] (.loop [(9, .i .i64), (10, .i .i64)] [0, 7, 8, 23, 24] [2] (.two (.two (.leaf) (.two (.leaf) (.leaf))) (.two (.join [(0, .s), (7, .s), (8, .i .i64), (9, .i .i64), (10, .i .i64), (23, .i .i64), (24, .i .i64)] [] [] (.ord [0, 1, 2, 3, 4, 5, 6, 7, 8, 9, 10, 11, 12, 13]) .leaf) (.leaf)))) .leaf)) (.leaf)))) .leaf) (.leaf))))) .leaf)) (.two (.leaf) (.leaf))))))
def R115 : Slots := [(4, .s), (5, .i .i64)]
noncomputable def levin_Auto : FunA := denF Tryz.prog G115 Tryz.f115 A115 R115
noncomputable def levin_Auto_L2_B (os vs : List AV) (μ : AMem) : Option Res := joinK [(9, .i .i64), (10, .i .i64)] vs (envO [0, 7, 8, 23, 24] os) fun e => den Tryz.prog G115 Tryz.f115.ntmps (cL (cL (cR (cL (cR (cR (cL (cL (cR (cR (cL (cL (cR (cL (cR (cR (cR (cR (bodyOf Tryz.f115))))))))))))))))))) (aL (aL (aR (aL (aR (aR (aL (aL (aR (aR (aL (aL (aR (aL (aR (aR (aR (aR A115)))))))))))))))))) { ret := R115, exits := [(2, [(0, .s), (7, .s), (9, .i .i64), (23, .i .i64), (24, .i .i64)]), (1, [(0, .s), (7, .s), (23, .i .i64), (24, .i .i64)]), (0, [(7, .s)])] } Res e μ fun ex e μ => some (ex, valsOf (Lv.at { ret := R115, exits := [(2, [(0, .s), (7, .s), (9, .i .i64), (23, .i .i64), (24, .i .i64)]), (1, [(0, .s), (7, .s), (23, .i .i64), (24, .i .i64)]), (0, [(7, .s)])] } [(9, .i .i64), (10, .i .i64)] ex) e, μ)
noncomputable def levin_Auto_L2 (os vs : List AV) (μ : AMem) : Option Res := loopA (levin_Auto_L2_B os) vs μ
noncomputable def levin_Auto_L1_B (os vs : List AV) (μ : AMem) : Option Res := joinK [(7, .s), (24, .i .i64)] vs (envO [0, 23] os) fun e => den Tryz.prog G115 Tryz.f115.ntmps (cL (cL (cR (cL (cR (cR (cR (cR (bodyOf Tryz.f115))))))))) (aL (aL (aR (aL (aR (aR (aR (aR A115)))))))) { ret := R115, exits := [(0, [(7, .s)])] } Res e μ fun ex e μ => some (ex, valsOf (Lv.at { ret := R115, exits := [(0, [(7, .s)])] } [(7, .s), (24, .i .i64)] ex) e, μ)
noncomputable def levin_Auto_L1 (os vs : List AV) (μ : AMem) : Option Res := loopA (levin_Auto_L1_B os) vs μ
theorem levin_Auto_L2_B_eq (s0 : SV) (s7 : SV) (s8 : Int) (s23 : Int) (s24 : Int) (s9 : Int) (s10 : Int) (μ : AMem) : levin_Auto_L2_B [.s s0, .s s7, .s (.int .i64 s8), .s (.int .i64 s23), .s (.int .i64 s24)] [.s (.int .i64 s9), .s (.int .i64 s10)] μ =
 (lenS (.s s0)).bind fun l62 =>
 bif decide (s10 < ((l62 : Nat) : Int)) then
 (indS 1 (.s s0) s10 fun p63 =>
 loadAt μ p63 fun v64 =>
 asI .i64 v64 fun n65 =>
 indS 1 (.s s0) (IntKind.wrap .i64 (s10 - s8)) fun p66 =>
 loadAt μ p66 fun v67 =>
 asI .i64 v67 fun n68 =>
 some (.normal, [.s (.int .i64 (IntKind.wrap .i64 (s9 + (IntKind.wrap .i64 (n65 * n68))))), .s (.int .i64 (IntKind.wrap .i64 (s10 + 1)))], μ))
 else
 (some (.exit 2, [.s s0, .s s7, .s (.int .i64 s9), .s (.int .i64 s23), .s (.int .i64 s24)], μ)) := by kernel_rfl
theorem levin_Auto_L2_eq (os vs : List AV) (μ : AMem) : levin_Auto_L2 os vs μ = (levin_Auto_L2_B os vs μ).bind fun r => match r.1 with | .normal => levin_Auto_L2 os r.2.1 r.2.2 | _ => some r := loopA_eq _ _ _
theorem levin_Auto_L1_B_eq (s0 : SV) (s23 : Int) (s7 : SV) (s24 : Int) (μ : AMem) : levin_Auto_L1_B [.s s0, .s (.int .i64 s23)] [.s s7, .s (.int .i64 s24)] μ =
 bif decide (s24 < s23) then
 (seqJ (levin_Auto_L2 [.s s0, .s s7, .s (.int .i64 s24), .s (.int .i64 s23), .s (.int .i64 s24)] [.s (.int .i64 0), .s (.int .i64 s24)] μ)
 (fun _ _ => none)
 (fun vs33 m34 =>
 headK vs33 fun a38 r39 =>
 asS a38 fun x40 =>
 headK r39 fun a41 r42 =>
 asI .i64 a41 fun n43 =>
 some (.ret, [.s x40, .s (.int .i64 n43)], m34))
 (fun d37 vs35 m36 =>
 bif Nat.beq 2 d37 then (headK vs35 fun a44 r45 =>
 asS a44 fun x46 =>
 headK r45 fun a47 r48 =>
 asS a47 fun x49 =>
 headK r48 fun a50 r51 =>
 asI .i64 a50 fun n52 =>
 headK r51 fun a53 r54 =>
 asI .i64 a53 fun n55 =>
 headK r54 fun a56 r57 =>
 asI .i64 a56 fun n58 =>
 appendA 3 1 8 (m36.next + 3) ((m36.bump 5).set (m36.next + 2) (rowObj [.int .i64 n52] 1 3 (some 1))) (.s x49) (.s (.slice (m36.next + 2) 0 0 1)) fun x59 m60 =>
 asS x59 fun x61 =>
 some (.normal, [.s x61, .s (.int .i64 (IntKind.wrap .i64 (n58 + 1)))], m60)) else (none)))
 else
 (some (.exit 0, [.s s7], μ)) := by kernel_rfl
theorem levin_Auto_L1_eq (os vs : List AV) (μ : AMem) : levin_Auto_L1 os vs μ = (levin_Auto_L1_B os vs μ).bind fun r => match r.1 with | .normal => levin_Auto_L1 os r.2.1 r.2.2 | _ => some r := loopA_eq _ _ _
theorem levin_Auto_eq (p0 : SV) (p1 : Int) (μ : AMem) : levin_Auto [.s p0, .s (.int .i64 p1)] μ =
 seqJ
 (bif !(decide (p1 < 0)) then
 (some (.normal, [.s (.bool (decide (p1 > 12)))], μ))
 else
 (some (.normal, [.s (.bool true)], μ)))
 (fun vs1 m2 =>
 headK vs1 fun a3 r4 =>
 asB a3 fun b5 =>
 bif b5 then
 (some (.tuple [.s .nilSlice, .s (.int .i64 1)], m2))
 else
 ((fixed_Check [.s p0] m2).bind fun r6 =>
 asI .i64 r6.1 fun n7 =>
 bif (n7 != 0) then
 (some (.tuple [.s .nilSlice, .s (.int .i64 n7)], r6.2))
 else
 (seqJ (levin_Auto_L1 [.s p0, .s (.int .i64 (IntKind.wrap .i64 (p1 + 1)))] [.s .nilSlice, .s (.int .i64 0)] r6.2)
 (fun _ _ => none)
 (fun vs8 m9 =>
 headK vs8 fun a13 r14 =>
 asS a13 fun x15 =>
 headK r14 fun a16 r17 =>
 asI .i64 a16 fun n18 =>
 some (.tuple [.s x15, .s (.int .i64 n18)], m9))
 (fun d12 vs10 m11 =>
 bif Nat.beq 0 d12 then (headK vs10 fun a19 r20 =>
 asS a19 fun x21 =>
 some (.tuple [.s x21, .s (.int .i64 0)], m11)) else (none)))))
 (fun vs22 m23 =>
 headK vs22 fun a27 r28 =>
 asS a27 fun x29 =>
 headK r28 fun a30 r31 =>
 asI .i64 a30 fun n32 =>
 some (.tuple [.s x29, .s (.int .i64 n32)], m23))
 (fun d26 vs24 m25 =>
 none) := by rw [← G115_37]; kernel_rfl

noncomputable def G116 : FuncId → FunA := fun _ _ _ => none
def A116 : Ann := .two (.leaf) (.two (.join [(18, .b)] [0] [] (.leaf) (.two (.two (.leaf) (.leaf)) (.leaf))) (.two (.two (.leaf) (.join [(0, .s)] [] [] (.loop [(21, .i .i64)] [0, 19, 20] [0] (.two (.leaf) (.two (.two (.leaf) (.leaf)) (.two (.join [(0, .s), (19, .s), (20, .i .i64), (21, .i .i64)] [] [] (.two (.leaf) (.join [(30, .b)] [0, 19, 20, 21] [] (.leaf) (.two (.two (.leaf) (.leaf)) (.leaf)))) .leaf) (.leaf))))) .leaf)) (.two (.leaf) (.two (.join [(0, .s), (6, .i .i64)] [] [] (.loop [(6, .i .i64)] [0] [2] (.two (.two (.leaf) (.two (.leaf) (.leaf))) (.join [(0, .s), (6, .i .i64)] [] [] (.leaf) .leaf))) .leaf) (.two (.leaf) (.two (.two (.leaf) (.join [(6, .i .i64), (7, .s)] [] [] (.loop [(7, .s), (42, .i .i64)] [6, 40, 41] [4] (.two (.leaf) (.two (.two (.leaf) (.leaf)) (.two (.join [(6, .i .i64), (7, .s), (40, .s), (41, .i .i64), (42, .i .i64)] [] [] (.two (.leaf) (.leaf)) .leaf) (.leaf))))) .leaf)) (.two (.leaf) (.leaf))))))))
def R116 : Slots := [(2, .s), (3, .i .i64)]
noncomputable def levin_Scaled : FunA := denF Tryz.prog G116 Tryz.f116 A116 R116
noncomputable def levin_Scaled_L3_B (os vs : List AV) (μ : AMem) : Option Res := joinK [(7, .s), (42, .i .i64)] vs (envO [6, 40, 41] os) fun e => den Tryz.prog G116 Tryz.f116.ntmps (cL (cL (cR (cL (cR (cR (cR (cR (cR (cR (bodyOf Tryz.f116))))))))))) (aL (aL (aR (aL (aR (aR (aR (aR (aR (aR A116)))))))))) { ret := R116, exits := [(4, [(6, .i .i64), (7, .s)])] } Res e μ fun ex e μ => some (ex, valsOf (Lv.at { ret := R116, exits := [(4, [(6, .i .i64), (7, .s)])] } [(7, .s), (42, .i .i64)] ex) e, μ)
noncomputable def levin_Scaled_L3 (os vs : List AV) (μ : AMem) : Option Res := loopA (levin_Scaled_L3_B os) vs μ
noncomputable def levin_Scaled_L2_B (os vs : List AV) (μ : AMem) : Option Res := joinK [(6, .i .i64)] vs (envO [0] os) fun e => den Tryz.prog G116 Tryz.f116.ntmps (cL (cL (cL (cR (cR (cR (cR (bodyOf Tryz.f116)))))))) (aL (aL (aL (aR (aR (aR (aR A116))))))) { ret := R116, exits := [(2, [(0, .s), (6, .i .i64)])] } Res e μ fun ex e μ => some (ex, valsOf (Lv.at { ret := R116, exits := [(2, [(0, .s), (6, .i .i64)])] } [(6, .i .i64)] ex) e, μ)
noncomputable def levin_Scaled_L2 (os vs : List AV) (μ : AMem) : Option Res := loopA (levin_Scaled_L2_B os) vs μ
noncomputable def levin_Scaled_L1_B (os vs : List AV) (μ : AMem) : Option Res := joinK [(21, .i .i64)] vs (envO [0, 19, 20] os) fun e => den Tryz.prog G116 Tryz.f116.ntmps (cL (cL (cR (cL (cR (cR (bodyOf Tryz.f116))))))) (aL (aL (aR (aL (aR (aR A116)))))) { ret := R116, exits := [(0, [(0, .s)])] } Res e μ fun ex e μ => some (ex, valsOf (Lv.at { ret := R116, exits := [(0, [(0, .s)])] } [(21, .i .i64)] ex) e, μ)
noncomputable def levin_Scaled_L1 (os vs : List AV) (μ : AMem) : Option Res := loopA (levin_Scaled_L1_B os) vs μ
theorem levin_Scaled_L3_B_eq (s6 : Int) (s40 : SV) (s41 : Int) (s7 : SV) (s42 : Int) (μ : AMem) : levin_Scaled_L3_B [.s (.int .i64 s6), .s s40, .s (.int .i64 s41)] [.s s7, .s (.int .i64 s42)] μ =
 bif decide (s42 < s41) then
 (indS 1 (.s s40) s42 fun p93 =>
 loadAt μ p93 fun v94 =>
 asI .i64 v94 fun n95 =>
 if s6 < 0 then none else
 (appendA 3 1 8 (μ.next + 5) ((μ.bump 7).set (μ.next + 4) (rowObj [.int .i64 (Int.fdiv n95 (2 ^ (min (Int.toNat s6) (IntKind.bits .i64))))] 1 3 (some 1))) (.s s7) (.s (.slice (μ.next + 4) 0 0 1)) fun x96 m97 =>
 asS x96 fun x98 =>
 some (.normal, [.s x98, .s (.int .i64 (IntKind.wrap .i64 (s42 + 1)))], m97)))
 else
 (some (.exit 4, [.s (.int .i64 s6), .s s7], μ)) := by kernel_rfl
theorem levin_Scaled_L3_eq (os vs : List AV) (μ : AMem) : levin_Scaled_L3 os vs μ = (levin_Scaled_L3_B os vs μ).bind fun r => match r.1 with | .normal => levin_Scaled_L3 os r.2.1 r.2.2 | _ => some r := loopA_eq _ _ _
theorem levin_Scaled_L2_B_eq (s0 : SV) (s6 : Int) (μ : AMem) : levin_Scaled_L2_B [.s s0] [.s (.int .i64 s6)] μ =
 indS 1 (.s s0) 0 fun p90 =>
 loadAt μ p90 fun v91 =>
 asI .i64 v91 fun n92 =>
 if s6 < 0 then none else
 (bif decide ((Int.fdiv n92 (2 ^ (min (Int.toNat s6) (IntKind.bits .i64)))) ≥ 1073741824) then
 (some (.normal, [.s (.int .i64 (IntKind.wrap .i64 (s6 + 1)))], μ))
 else
 (some (.exit 2, [.s s0, .s (.int .i64 s6)], μ))) := by kernel_rfl
theorem levin_Scaled_L2_eq (os vs : List AV) (μ : AMem) : levin_Scaled_L2 os vs μ = (levin_Scaled_L2_B os vs μ).bind fun r => match r.1 with | .normal => levin_Scaled_L2 os r.2.1 r.2.2 | _ => some r := loopA_eq _ _ _
theorem levin_Scaled_L1_B_eq (s0 : SV) (s19 : SV) (s20 : Int) (s21 : Int) (μ : AMem) : levin_Scaled_L1_B [.s s0, .s s19, .s (.int .i64 s20)] [.s (.int .i64 s21)] μ =
 bif decide (s21 < s20) then
 (indS 1 (.s s19) s21 fun p71 =>
 loadAt μ p71 fun v72 =>
 asI .i64 v72 fun n73 =>
 seqJ
 (bif !(decide (n73 < (-1152921504606846976))) then
 (some (.normal, [.s (.bool (decide (n73 > 1152921504606846976)))], μ))
 else
 (some (.normal, [.s (.bool true)], μ)))
 (fun vs74 m75 =>
 headK vs74 fun a76 r77 =>
 asB a76 fun b78 =>
 bif b78 then
 (some (.ret, [.s .nilSlice, .s (.int .i64 0)], m75))
 else
 (some (.normal, [.s (.int .i64 (IntKind.wrap .i64 (s21 + 1)))], m75)))
 (fun vs79 m80 =>
 headK vs79 fun a84 r85 =>
 asS a84 fun x86 =>
 headK r85 fun a87 r88 =>
 asI .i64 a87 fun n89 =>
 some (.ret, [.s x86, .s (.int .i64 n89)], m80))
 (fun d83 vs81 m82 =>
 none))
 else
 (some (.exit 0, [.s s0], μ)) := by kernel_rfl
theorem levin_Scaled_L1_eq (os vs : List AV) (μ : AMem) : levin_Scaled_L1 os vs μ = (levin_Scaled_L1_B os vs μ).bind fun r => match r.1 with | .normal => levin_Scaled_L1 os r.2.1 r.2.2 | _ => some r := loopA_eq _ _ _
theorem levin_Scaled_eq (p0 : SV) (μ : AMem) : levin_Scaled [.s p0] μ =
 seqJ
 ((lenS (.s p0)).bind fun l1 =>
 bif !(((l1 : Nat) : Int) == 0) then
 (indS 1 (.s p0) 0 fun p2 =>
 loadAt μ p2 fun v3 =>
 asI .i64 v3 fun n4 =>
 some (.normal, [.s (.bool (decide (n4 < 0)))], μ))
 else
 (some (.normal, [.s (.bool true)], μ)))
 (fun vs5 m6 =>
 headK vs5 fun a7 r8 =>
 asB a7 fun b9 =>
 bif b9 then
 (some (.tuple [.s .nilSlice, .s (.int .i64 0)], m6))
 else
 ((lenS (.s p0)).bind fun l10 =>
 seqJ (levin_Scaled_L1 [.s p0, .s p0, .s (.int .i64 ((l10 : Nat) : Int))] [.s (.int .i64 0)] m6)
 (fun _ _ => none)
 (fun vs11 m12 =>
 headK vs11 fun a16 r17 =>
 asS a16 fun x18 =>
 headK r17 fun a19 r20 =>
 asI .i64 a19 fun n21 =>
 some (.tuple [.s x18, .s (.int .i64 n21)], m12))
 (fun d15 vs13 m14 =>
 bif Nat.beq 0 d15 then (headK vs13 fun a22 r23 =>
 asS a22 fun x24 =>
 seqJ (levin_Scaled_L2 [.s x24] [.s (.int .i64 0)] m14)
 (fun _ _ => none)
 (fun vs25 m26 =>
 headK vs25 fun a30 r31 =>
 asS a30 fun x32 =>
 headK r31 fun a33 r34 =>
 asI .i64 a33 fun n35 =>
 some (.tuple [.s x32, .s (.int .i64 n35)], m26))
 (fun d29 vs27 m28 =>
 bif Nat.beq 2 d29 then (headK vs27 fun a36 r37 =>
 asS a36 fun x38 =>
 headK r37 fun a39 r40 =>
 asI .i64 a39 fun n41 =>
 (lenS (.s x38)).bind fun l42 =>
 seqJ (levin_Scaled_L3 [.s (.int .i64 n41), .s x38, .s (.int .i64 ((l42 : Nat) : Int))] [.s .nilSlice, .s (.int .i64 0)] m28)
 (fun _ _ => none)
 (fun vs43 m44 =>
 headK vs43 fun a48 r49 =>
 asS a48 fun x50 =>
 headK r49 fun a51 r52 =>
 asI .i64 a51 fun n53 =>
 some (.tuple [.s x50, .s (.int .i64 n53)], m44))
 (fun d47 vs45 m46 =>
 bif Nat.beq 4 d47 then (headK vs45 fun a54 r55 =>
 asI .i64 a54 fun n56 =>
 headK r55 fun a57 r58 =>
 asS a57 fun x59 =>
 some (.tuple [.s x59, .s (.int .i64 n56)], m46)) else (none))) else (none))) else (none))))
 (fun vs60 m61 =>
 headK vs60 fun a65 r66 =>
 asS a65 fun x67 =>
 headK r66 fun a68 r69 =>
 asI .i64 a68 fun n70 =>
 some (.tuple [.s x67, .s (.int .i64 n70)], m61))
 (fun d64 vs62 m63 =>
 none) := by kernel_rfl

noncomputable def G117 : FuncId → FunA := fun _ _ _ => none
def A117 : Ann := .two (.leaf) (.two (.leaf) (.join [(5, .i .i64)] [] [] (.two (.leaf) (.two (.leaf) (.leaf))) (.two (.leaf) (.leaf))))
def R117 : Slots := [(4, .i .i64)]
noncomputable def levin_floor : FunA := denF Tryz.prog G117 Tryz.f117 A117 R117
theorem levin_floor_eq (p0 : Int) (p1 : Int) (μ : AMem) : levin_floor [.s (.int .i64 p0), .s (.int .i64 p1)] μ =
 if p1 = 0 then none else
 (seqJ
 (if p1 = 0 then none else
 (bif decide ((Int.tmod p0 p1) < 0) then
 (some (.normal, [.s (.int .i64 (IntKind.wrap .i64 ((IntKind.wrap .i64 (Int.tdiv p0 p1)) - 1)))], μ))
 else
 (some (.normal, [.s (.int .i64 (IntKind.wrap .i64 (Int.tdiv p0 p1)))], μ))))
 (fun vs1 m2 =>
 headK vs1 fun a3 r4 =>
 asI .i64 a3 fun n5 =>
 some (.s (.int .i64 n5), m2))
 (fun vs6 m7 =>
 headK vs6 fun a11 r12 =>
 asI .i64 a11 fun n13 =>
 some (.s (.int .i64 n13), m7))
 (fun d10 vs8 m9 =>
 none)) := by kernel_rfl

noncomputable def G92 : FuncId → FunA := fun g => bif Nat.beq g 37 then fixed_Check else bif Nat.beq g 115 then levin_Auto else bif Nat.beq g 116 then levin_Scaled else bif Nat.beq g 117 then levin_floor else fun _ _ => none
theorem G92_37 : G92 37 = fixed_Check := by kernel_rfl
theorem G92_115 : G92 115 = levin_Auto := by kernel_rfl
theorem G92_116 : G92 116 = levin_Scaled := by kernel_rfl
theorem G92_117 : G92 117 = levin_floor := by kernel_rfl
def A92 : Ann := .two (.leaf) (.two (.join [(35, .b)] [0, 1] [] (.leaf) (.two (.two (.leaf) (.leaf)) (.leaf))) (.two (.leaf) (.two (.leaf) (.two (.leaf) (.two (.leaf) (.two (.two (.leaf) (.join [(11, .s)] [] [] (.loop [(10, .i .i64), (12, .i .i64)] [1, 8, 11] [0] (.two (.two (.leaf) (.two (.leaf) (.leaf))) (.two (.join [(1, .i .i64), (8, .s), (10, .i .i64), (11, .s), (12, .i .i64)] [] [] (.two (.two (.leaf) (.two (.two (.leaf) (.leaf)) (.leaf))) (.two (.leaf) (.two (.two (.leaf) (.join [(1, .i .i64), (8, .s), (10, .i .i64), (11, .s), (12, .i .i64), (13, .i .i64)] [] [] (.loop [(13, .i .i64), (14, .i .i64)] [1, 8, 10, 11, 12] [2] (.two (.two (.leaf) (.two (.leaf) (.leaf))) (.two (.join [(1, .i .i64), (8, .s), (10, .i .i64), (11, .s), (12, .i .i64), (13, .i .i64), (14, .i .i64)] [] [] (.ord [0, 1, 2, 3, 4, 5, 6, 7, 8, 9, 10, 11, 12, 13]) .leaf) (.leaf)))) .leaf)) (.two (.leaf) (.two (.leaf) (.two (.two (.leaf) (.join [(1, .i .i64), (8, .s), (10, .i .i64), (11, .s), (12, .i .i64), (13, .i .i64)] [] [] (.loop [(16, .i .i64)] [1, 8, 10, 11, 12, 13, 15] [4] (.two (.two (.leaf) (.two (.leaf) (.leaf))) (.two (.join [(1, .i .i64), (8, .s), (10, .i .i64), (11, .s), (12, .i .i64), (13, .i .i64), (15, .s), (16, .i .i64)] [] [] (.ord [0, 1, 2, 3, 4, 5, 6, 7, 8, 9, 10, 11, 12, 13, 14, 15, 16, 17]) .leaf) (.leaf)))) .leaf)) (.two (.leaf) (.leaf)))))))) .leaf) (.leaf)))) .leaf)) (.two (.two (.leaf) (.join [(11, .s)] [] [] (.loop [(128, .i .i64)] [11, 126, 127] [6] (.two (.leaf) (.two (.two (.leaf) (.leaf)) (.two (.join [(11, .s), (126, .s), (127, .i .i64), (128, .i .i64)] [] [] (.two (.leaf) (.join [(137, .b)] [11, 126, 127, 128] [] (.leaf) (.two (.two (.leaf) (.leaf)) (.leaf)))) .leaf) (.leaf))))) .leaf)) (.two (.leaf) (.leaf)))))))))
def R92 : Slots := [(4, .s), (5, .b)]
noncomputable def levin_Coefficients : FunA := denF Tryz.prog G92 Tryz.f92 A92 R92
noncomputable def levin_Coefficients_L4_B (os vs : List AV) (μ : AMem) : Option Res := joinK [(16, .i .i64)] vs (envO [1, 8, 10, 11, 12, 13, 15] os) fun e => den Tryz.prog G92 Tryz.f92.ntmps (cL (cL (cR (cL (cR (cR (cR (cR (cR (cL (cL (cR (cL (cL (cR (cL (cR (cR (cR (cR (cR (cR (bodyOf Tryz.f92))))))))))))))))))))))) (aL (aL (aR (aL (aR (aR (aR (aR (aR (aL (aL (aR (aL (aL (aR (aL (aR (aR (aR (aR (aR (aR A92)))))))))))))))))))))) { ret := R92, exits := [(4, [(1, .i .i64), (8, .s), (10, .i .i64), (11, .s), (12, .i .i64), (13, .i .i64)]), (1, [(1, .i .i64), (8, .s), (10, .i .i64), (11, .s), (12, .i .i64)]), (0, [(11, .s)])] } Res e μ fun ex e μ => some (ex, valsOf (Lv.at { ret := R92, exits := [(4, [(1, .i .i64), (8, .s), (10, .i .i64), (11, .s), (12, .i .i64), (13, .i .i64)]), (1, [(1, .i .i64), (8, .s), (10, .i .i64), (11, .s), (12, .i .i64)]), (0, [(11, .s)])] } [(16, .i .i64)] ex) e, μ)
noncomputable def levin_Coefficients_L4 (os vs : List AV) (μ : AMem) : Option Res := loopA (levin_Coefficients_L4_B os) vs μ
noncomputable def levin_Coefficients_L3_B (os vs : List AV) (μ : AMem) : Option Res := joinK [(13, .i .i64), (14, .i .i64)] vs (envO [1, 8, 10, 11, 12] os) fun e => den Tryz.prog G92 Tryz.f92.ntmps (cL (cL (cR (cL (cR (cR (cL (cL (cR (cL (cL (cR (cL (cR (cR (cR (cR (cR (cR (bodyOf Tryz.f92)))))))))))))))))))) (aL (aL (aR (aL (aR (aR (aL (aL (aR (aL (aL (aR (aL (aR (aR (aR (aR (aR (aR A92))))))))))))))))))) { ret := R92, exits := [(2, [(1, .i .i64), (8, .s), (10, .i .i64), (11, .s), (12, .i .i64), (13, .i .i64)]), (1, [(1, .i .i64), (8, .s), (10, .i .i64), (11, .s), (12, .i .i64)]), (0, [(11, .s)])] } Res e μ fun ex e μ => some (ex, valsOf (Lv.at { ret := R92, exits := [(2, [(1, .i .i64), (8, .s), (10, .i .i64), (11, .s), (12, .i .i64), (13, .i .i64)]), (1, [(1, .i .i64), (8, .s), (10, .i .i64), (11, .s), (12, .i .i64)]), (0, [(11, .s)])] } [(13, .i .i64), (14, .i .i64)] ex) e, μ)
noncomputable def levin_Coefficients_L3 (os vs : List AV) (μ : AMem) : Option Res := loopA (levin_Coefficients_L3_B os) vs μ
noncomputable def levin_Coefficients_L2_B (os vs : List AV) (μ : AMem) : Option Res := joinK [(128, .i .i64)] vs (envO [11, 126, 127] os) fun e => den Tryz.prog G92 Tryz.f92.ntmps (cL (cL (cR (cL (cR (cR (cR (cR (cR (cR (cR (bodyOf Tryz.f92)))))))))))) (aL (aL (aR (aL (aR (aR (aR (aR (aR (aR (aR A92))))))))))) { ret := R92, exits := [(6, [(11, .s)])] } Res e μ fun ex e μ => some (ex, valsOf (Lv.at { ret := R92, exits := [(6, [(11, .s)])] } [(128, .i .i64)] ex) e, μ)
noncomputable def levin_Coefficients_L2 (os vs : List AV) (μ : AMem) : Option Res := loopA (levin_Coefficients_L2_B os) vs μ
noncomputable def levin_Coefficients_L1_B (os vs : List AV) (μ : AMem) : Option Res := joinK [(10, .i .i64), (12, .i .i64)] vs (envO [1, 8, 11] os) fun e => den Tryz.prog G92 Tryz.f92.ntmps (cL (cL (cR (cL (cR (cR (cR (cR (cR (cR (bodyOf Tryz.f92))))))))))) (aL (aL (aR (aL (aR (aR (aR (aR (aR (aR A92)))))))))) { ret := R92, exits := [(0, [(11, .s)])] } Res e μ fun ex e μ => some (ex, valsOf (Lv.at { ret := R92, exits := [(0, [(11, .s)])] } [(10, .i .i64), (12, .i .i64)] ex) e, μ)
noncomputable def levin_Coefficients_L1 (os vs : List AV) (μ : AMem) : Option Res := loopA (levin_Coefficients_L1_B os) vs μ
theorem levin_Coefficients_L4_B_eq (s1 : Int) (s8 : SV) (s10 : Int) (s11 : SV) (s12 : Int) (s13 : Int) (s15 : SV) (s16 : Int) (μ : AMem) : levin_Coefficients_L4_B [.s (.int .i64 s1), .s s8, .s (.int .i64 s10), .s s11, .s (.int .i64 s12), .s (.int .i64 s13), .s s15] [.s (.int .i64 s16)] μ =
 bif decide (s16 < s12) then
 (indS 1 (.s s15) s16 fun p159 =>
 loadAt μ p159 fun v160 =>
 asI .i64 v160 fun n161 =>
 indS 1 (.s s15) (IntKind.wrap .i64 (s12 - s16)) fun p162 =>
 loadAt μ p162 fun v163 =>
 asI .i64 v163 fun n164 =>
 indS 1 (.s s11) s16 fun p165 =>
 storeAt 1 μ p165 (.s (.int .i64 (IntKind.wrap .i64 (n161 - (Int.fdiv (IntKind.wrap .i64 (s13 * n164)) (2 ^ (12 : Nat))))))) fun m166 =>
 some (.normal, [.s (.int .i64 (IntKind.wrap .i64 (s16 + 1)))], m166))
 else
 (some (.exit 4, [.s (.int .i64 s1), .s s8, .s (.int .i64 s10), .s s11, .s (.int .i64 s12), .s (.int .i64 s13)], μ)) := by kernel_rfl
theorem levin_Coefficients_L4_eq (os vs : List AV) (μ : AMem) : levin_Coefficients_L4 os vs μ = (levin_Coefficients_L4_B os vs μ).bind fun r => match r.1 with | .normal => levin_Coefficients_L4 os r.2.1 r.2.2 | _ => some r := loopA_eq _ _ _
theorem levin_Coefficients_L3_B_eq (s1 : Int) (s8 : SV) (s10 : Int) (s11 : SV) (s12 : Int) (s13 : Int) (s14 : Int) (μ : AMem) : levin_Coefficients_L3_B [.s (.int .i64 s1), .s s8, .s (.int .i64 s10), .s s11, .s (.int .i64 s12)] [.s (.int .i64 s13), .s (.int .i64 s14)] μ =
 bif decide (s14 < s12) then
 (indS 1 (.s s11) s14 fun p153 =>
 loadAt μ p153 fun v154 =>
 asI .i64 v154 fun n155 =>
 indS 1 (.s s8) (IntKind.wrap .i64 (s12 - s14)) fun p156 =>
 loadAt μ p156 fun v157 =>
 asI .i64 v157 fun n158 =>
 some (.normal, [.s (.int .i64 (IntKind.wrap .i64 (s13 - (IntKind.wrap .i64 (n155 * n158))))), .s (.int .i64 (IntKind.wrap .i64 (s14 + 1)))], μ))
 else
 (some (.exit 2, [.s (.int .i64 s1), .s s8, .s (.int .i64 s10), .s s11, .s (.int .i64 s12), .s (.int .i64 s13)], μ)) := by kernel_rfl
theorem levin_Coefficients_L3_eq (os vs : List AV) (μ : AMem) : levin_Coefficients_L3 os vs μ = (levin_Coefficients_L3_B os vs μ).bind fun r => match r.1 with | .normal => levin_Coefficients_L3 os r.2.1 r.2.2 | _ => some r := loopA_eq _ _ _
theorem levin_Coefficients_L2_B_eq (s11 : SV) (s126 : SV) (s127 : Int) (s128 : Int) (μ : AMem) : levin_Coefficients_L2_B [.s s11, .s s126, .s (.int .i64 s127)] [.s (.int .i64 s128)] μ =
 bif decide (s128 < s127) then
 (indS 1 (.s s126) s128 fun p134 =>
 loadAt μ p134 fun v135 =>
 asI .i64 v135 fun n136 =>
 seqJ
 (bif !(decide (n136 < (-32768))) then
 (some (.normal, [.s (.bool (decide (n136 > 32767)))], μ))
 else
 (some (.normal, [.s (.bool true)], μ)))
 (fun vs137 m138 =>
 headK vs137 fun a139 r140 =>
 asB a139 fun b141 =>
 bif b141 then
 (some (.ret, [.s .nilSlice, .s (.bool false)], m138))
 else
 (some (.normal, [.s (.int .i64 (IntKind.wrap .i64 (s128 + 1)))], m138)))
 (fun vs142 m143 =>
 headK vs142 fun a147 r148 =>
 asS a147 fun x149 =>
 headK r148 fun a150 r151 =>
 asB a150 fun b152 =>
 some (.ret, [.s x149, .s (.bool b152)], m143))
 (fun d146 vs144 m145 =>
 none))
 else
 (some (.exit 6, [.s s11], μ)) := by kernel_rfl
theorem levin_Coefficients_L2_eq (os vs : List AV) (μ : AMem) : levin_Coefficients_L2 os vs μ = (levin_Coefficients_L2_B os vs μ).bind fun r => match r.1 with | .normal => levin_Coefficients_L2 os r.2.1 r.2.2 | _ => some r := loopA_eq _ _ _
theorem levin_Coefficients_L1_B_eq (s1 : Int) (s8 : SV) (s11 : SV) (s10 : Int) (s12 : Int) (μ : AMem) : levin_Coefficients_L1_B [.s (.int .i64 s1), .s s8, .s s11] [.s (.int .i64 s10), .s (.int .i64 s12)] μ =
 bif decide (s12 ≤ s1) then
 (bif decide (s10 < 1) then
 (some (.ret, [.s .nilSlice, .s (.bool false)], μ))
 else
 (indS 1 (.s s8) s12 fun p66 =>
 loadAt μ p66 fun v67 =>
 asI .i64 v67 fun n68 =>
 seqJ (levin_Coefficients_L3 [.s (.int .i64 s1), .s s8, .s (.int .i64 s10), .s s11, .s (.int .i64 s12)] [.s (.int .i64 (IntKind.wrap .i64 (n68 * 4096))), .s (.int .i64 1)] μ)
 (fun _ _ => none)
 (fun vs69 m70 =>
 headK vs69 fun a74 r75 =>
 asS a74 fun x76 =>
 headK r75 fun a77 r78 =>
 asB a77 fun b79 =>
 some (.ret, [.s x76, .s (.bool b79)], m70))
 (fun d73 vs71 m72 =>
 bif Nat.beq 2 d73 then (headK vs71 fun a80 r81 =>
 asI .i64 a80 fun n82 =>
 headK r81 fun a83 r84 =>
 asS a83 fun x85 =>
 headK r84 fun a86 r87 =>
 asI .i64 a86 fun n88 =>
 headK r87 fun a89 r90 =>
 asS a89 fun x91 =>
 headK r90 fun a92 r93 =>
 asI .i64 a92 fun n94 =>
 headK r93 fun a95 r96 =>
 asI .i64 a95 fun n97 =>
 (levin_floor [.s (.int .i64 n97), .s (.int .i64 n88)] m72).bind fun r98 =>
 asI .i64 r98.1 fun n99 =>
 appendA 3 1 8 (r98.2.next + 1) (r98.2.bump 3) (.s .nilSlice) (.s x91) fun x100 m101 =>
 asS x100 fun x102 =>
 seqJ (levin_Coefficients_L4 [.s (.int .i64 n82), .s x85, .s (.int .i64 n88), .s x91, .s (.int .i64 n94), .s (.int .i64 (if (if 4095 < n99 then 4095 else n99) > (-4095) then (if 4095 < n99 then 4095 else n99) else (-4095))), .s x102] [.s (.int .i64 1)] m101)
 (fun _ _ => none)
 (fun vs103 m104 =>
 headK vs103 fun a108 r109 =>
 asS a108 fun x110 =>
 headK r109 fun a111 r112 =>
 asB a111 fun b113 =>
 some (.ret, [.s x110, .s (.bool b113)], m104))
 (fun d107 vs105 m106 =>
 bif Nat.beq 4 d107 then (headK vs105 fun a114 r115 =>
 asI .i64 a114 fun n116 =>
 headK r115 fun a117 r118 =>
 asS a117 fun x119 =>
 headK r118 fun a120 r121 =>
 asI .i64 a120 fun n122 =>
 headK r121 fun a123 r124 =>
 asS a123 fun x125 =>
 headK r124 fun a126 r127 =>
 asI .i64 a126 fun n128 =>
 headK r127 fun a129 r130 =>
 asI .i64 a129 fun n131 =>
 indS 1 (.s x125) n128 fun p132 =>
 storeAt 1 m106 p132 (.s (.int .i64 n131)) fun m133 =>
 some (.normal, [.s (.int .i64 (IntKind.wrap .i64 (n122 - (Int.fdiv (IntKind.wrap .i64 ((Int.fdiv (IntKind.wrap .i64 (n131 * n131)) (2 ^ (12 : Nat))) * n122)) (2 ^ (12 : Nat)))))), .s (.int .i64 (IntKind.wrap .i64 (n128 + 1)))], m133)) else (none))) else (none))))
 else
 (some (.exit 0, [.s s11], μ)) := by rw [← G92_117]; kernel_rfl
theorem levin_Coefficients_L1_eq (os vs : List AV) (μ : AMem) : levin_Coefficients_L1 os vs μ = (levin_Coefficients_L1_B os vs μ).bind fun r => match r.1 with | .normal => levin_Coefficients_L1 os r.2.1 r.2.2 | _ => some r := loopA_eq _ _ _
theorem levin_Coefficients_eq (p0 : SV) (p1 : Int) (μ : AMem) : levin_Coefficients [.s p0, .s (.int .i64 p1)] μ =
 seqJ
 (bif !(decide (p1 < 1)) then
 (bif !(decide (p1 > 12)) then
 ((fixed_Check [.s p0] μ).bind fun r1 =>
 asI .i64 r1.1 fun n2 =>
 bif !(n2 != 0) then
 ((lenS (.s p0)).bind fun l3 =>
 some (.normal, [.s (.bool (decide (((l3 : Nat) : Int) ≤ p1)))], r1.2))
 else
 (some (.normal, [.s (.bool true)], r1.2)))
 else
 (some (.normal, [.s (.bool true)], μ)))
 else
 (some (.normal, [.s (.bool true)], μ)))
 (fun vs4 m5 =>
 headK vs4 fun a6 r7 =>
 asB a6 fun b8 =>
 bif b8 then
 (some (.tuple [.s .nilSlice, .s (.bool false)], m5))
 else
 ((levin_Auto [.s p0, .s (.int .i64 p1)] m5).bind fun r9 =>
 extrK 0 r9.1 fun t10 =>
 asS t10 fun x11 =>
 extrK 1 r9.1 fun t12 =>
 asI .i64 t12 fun n13 =>
 (levin_Scaled [.s x11] r9.2).bind fun r14 =>
 extrK 0 r14.1 fun t15 =>
 asS t15 fun x16 =>
 extrK 1 r14.1 fun t17 =>
 asI .i64 t17 fun n18 =>
 indS 1 (.s x16) 0 fun p19 =>
 loadAt r14.2 p19 fun v20 =>
 asI .i64 v20 fun n21 =>
 if 0 ≤ (IntKind.wrap .i64 (p1 + 1)) ∧ (IntKind.wrap .i64 (p1 + 1)) ≤ (IntKind.wrap .i64 (p1 + 1)) ∧ (IntKind.wrap .i64 (p1 + 1)) ≤ 9223372036854775807 ∧ (8 : Nat) * (IntKind.wrap .i64 (p1 + 1)) ≤ 140737488355328 then
 (seqJ (levin_Coefficients_L1 [.s (.int .i64 p1), .s x16, .s (.slice (r14.2.next + 2) 0 0 (Int.toNat (IntKind.wrap .i64 (p1 + 1))))] [.s (.int .i64 n21), .s (.int .i64 1)] ((r14.2.bump 4).set (r14.2.next + 2) (rowObj (zerosA [.int .i64 0] (Int.toNat (IntKind.wrap .i64 (p1 + 1)))) 1 3 (some (Int.toNat (IntKind.wrap .i64 (p1 + 1)))))))
 (fun _ _ => none)
 (fun vs22 m23 =>
 headK vs22 fun a27 r28 =>
 asS a27 fun x29 =>
 headK r28 fun a30 r31 =>
 asB a30 fun b32 =>
 some (.tuple [.s x29, .s (.bool b32)], m23))
 (fun d26 vs24 m25 =>
 bif Nat.beq 0 d26 then (headK vs24 fun a33 r34 =>
 asS a33 fun x35 =>
 (lenS (.s x35)).bind fun l36 =>
 cutS 1 (.s x35) 1 ((l36 : Nat) : Int) fun x37 =>
 (lenS x37).bind fun l38 =>
 seqJ (levin_Coefficients_L2 [.s x35, x37, .s (.int .i64 ((l38 : Nat) : Int))] [.s (.int .i64 0)] m25)
 (fun _ _ => none)
 (fun vs39 m40 =>
 headK vs39 fun a44 r45 =>
 asS a44 fun x46 =>
 headK r45 fun a47 r48 =>
 asB a47 fun b49 =>
 some (.tuple [.s x46, .s (.bool b49)], m40))
 (fun d43 vs41 m42 =>
 bif Nat.beq 6 d43 then (headK vs41 fun a50 r51 =>
 asS a50 fun x52 =>
 (lenS (.s x52)).bind fun l53 =>
 cutS 1 (.s x52) 1 ((l53 : Nat) : Int) fun x54 =>
 some (.tuple [x54, .s (.bool true)], m42)) else (none))) else (none))) else none))
 (fun vs55 m56 =>
 headK vs55 fun a60 r61 =>
 asS a60 fun x62 =>
 headK r61 fun a63 r64 =>
 asB a63 fun b65 =>
 some (.tuple [.s x62, .s (.bool b65)], m56))
 (fun d59 vs57 m58 =>
 none) := by rw [← G92_37, ← G92_115, ← G92_116]; kernel_rfl

noncomputable def G123 : FuncId → FunA := fun _ _ _ => none
def A123 : Ann := .two (.leaf) (.two (.leaf) (.leaf))
def R123 : Slots := [(2, .b)]
noncomputable def lpc_coef : FunA := denF Tryz.prog G123 Tryz.f123 A123 R123
theorem lpc_coef_eq (p0 : Int) (μ : AMem) : lpc_coef [.s (.int .i64 p0)] μ =
 bif decide (p0 ≥ (-32768)) then
 (some (.s (.bool (decide (p0 ≤ 32767))), μ))
 else
 (some (.s (.bool false), μ)) := by kernel_rfl

noncomputable def G104 : FuncId → FunA := fun g => bif Nat.beq g 123 then lpc_coef else fun _ _ => none
theorem G104_123 : G104 123 = lpc_coef := by kernel_rfl
def A104 : Ann := .two (.leaf) (.two (.two (.leaf) (.join [(0, .s)] [] [] (.loop [(7, .i .i64)] [0, 5, 6] [0] (.two (.leaf) (.two (.two (.leaf) (.leaf)) (.two (.join [(0, .s), (5, .s), (6, .i .i64), (7, .i .i64)] [] [] (.two (.leaf) (.two (.leaf) (.two (.two (.leaf) (.leaf)) (.leaf)))) .leaf) (.leaf))))) .leaf)) (.two (.leaf) (.leaf)))
def R104 : Slots := [(2, .b)]
noncomputable def lpc_May : FunA := denF Tryz.prog G104 Tryz.f104 A104 R104
noncomputable def lpc_May_L1_B (os vs : List AV) (μ : AMem) : Option Res := joinK [(7, .i .i64)] vs (envO [0, 5, 6] os) fun e => den Tryz.prog G104 Tryz.f104.ntmps (cL (cL (cR (cL (cR (bodyOf Tryz.f104)))))) (aL (aL (aR (aL (aR A104))))) { ret := R104, exits := [(0, [(0, .s)])] } Res e μ fun ex e μ => some (ex, valsOf (Lv.at { ret := R104, exits := [(0, [(0, .s)])] } [(7, .i .i64)] ex) e, μ)
noncomputable def lpc_May_L1 (os vs : List AV) (μ : AMem) : Option Res := loopA (lpc_May_L1_B os) vs μ
theorem lpc_May_L1_B_eq (s0 : SV) (s5 : SV) (s6 : Int) (s7 : Int) (μ : AMem) : lpc_May_L1_B [.s s0, .s s5, .s (.int .i64 s6)] [.s (.int .i64 s7)] μ =
 bif decide (s7 < s6) then
 (indS 1 (.s s5) s7 fun p15 =>
 loadAt μ p15 fun v16 =>
 asI .i64 v16 fun n17 =>
 (lpc_coef [.s (.int .i64 n17)] μ).bind fun r18 =>
 asB r18.1 fun b19 =>
 bif (!b19) then
 (some (.ret, [.s (.bool false)], r18.2))
 else
 (some (.normal, [.s (.int .i64 (IntKind.wrap .i64 (s7 + 1)))], r18.2)))
 else
 (some (.exit 0, [.s s0], μ)) := by rw [← G104_123]; kernel_rfl
theorem lpc_May_L1_eq (os vs : List AV) (μ : AMem) : lpc_May_L1 os vs μ = (lpc_May_L1_B os vs μ).bind fun r => match r.1 with | .normal => lpc_May_L1 os r.2.1 r.2.2 | _ => some r := loopA_eq _ _ _
theorem lpc_May_eq (p0 : SV) (μ : AMem) : lpc_May [.s p0] μ =
 (lenS (.s p0)).bind fun l1 =>
 seqJ (lpc_May_L1 [.s p0, .s p0, .s (.int .i64 ((l1 : Nat) : Int))] [.s (.int .i64 0)] μ)
 (fun _ _ => none)
 (fun vs2 m3 =>
 headK vs2 fun a7 r8 =>
 asB a7 fun b9 =>
 some (.s (.bool b9), m3))
 (fun d6 vs4 m5 =>
 bif Nat.beq 0 d6 then (headK vs4 fun a10 r11 =>
 asS a10 fun x12 =>
 (lenS (.s x12)).bind fun l13 =>
 bif decide (((l13 : Nat) : Int) ≥ 1) then
 ((lenS (.s x12)).bind fun l14 =>
 some (.s (.bool (decide (((l14 : Nat) : Int) ≤ 12))), m5))
 else
 (some (.s (.bool false), m5))) else (none)) := by kernel_rfl

noncomputable def G124 : FuncId → FunA := fun _ _ _ => none
def A124 : Ann := .two (.leaf) (.two (.join [(8, .b)] [0] [] (.leaf) (.two (.two (.leaf) (.leaf)) (.leaf))) (.two (.leaf) (.leaf)))
def R124 : Slots := [(2, .i .i64)]
noncomputable def lpc_cut : FunA := denF Tryz.prog G124 Tryz.f124 A124 R124
theorem lpc_cut_eq (p0 : Int) (μ : AMem) : lpc_cut [.s (.int .i64 p0)] μ =
 seqJ
 (bif !(decide (p0 < (-16777216))) then
 (some (.normal, [.s (.bool (decide (p0 > 16777216)))], μ))
 else
 (some (.normal, [.s (.bool true)], μ)))
 (fun vs1 m2 =>
 headK vs1 fun a3 r4 =>
 asB a3 fun b5 =>
 bif b5 then
 (some (.s (.int .i64 0), m2))
 else
 (some (.s (.int .i64 p0), m2)))
 (fun vs6 m7 =>
 headK vs6 fun a11 r12 =>
 asI .i64 a11 fun n13 =>
 some (.s (.int .i64 n13), m7))
 (fun d10 vs8 m9 =>
 none) := by kernel_rfl

noncomputable def G106 : FuncId → FunA := fun g => bif Nat.beq g 123 then lpc_coef else bif Nat.beq g 124 then lpc_cut else fun _ _ => none
theorem G106_123 : G106 123 = lpc_coef := by kernel_rfl
theorem G106_124 : G106 124 = lpc_cut := by kernel_rfl
def A106 : Ann := .two (.leaf) (.two (.leaf) (.two (.two (.leaf) (.join [(5, .i .i64)] [] [] (.loop [(5, .i .i64), (12, .i .i64)] [0, 1, 11] [0] (.two (.leaf) (.two (.two (.leaf) (.leaf)) (.join [(5, .i .i64)] [0, 1, 11, 12] [] (.join [(0, .s), (1, .s), (5, .i .i64), (11, .i .i64), (12, .i .i64)] [] [] (.two (.leaf) (.two (.leaf) (.two (.ord [0, 1, 2, 3, 4, 5, 6, 7, 8, 9, 10, 11, 12, 13, 14, 15, 16]) (.leaf)))) .leaf) (.leaf))))) .leaf)) (.two (.leaf) (.leaf))))
def R106 : Slots := [(4, .i .i64)]
noncomputable def lpc_Guess : FunA := denF Tryz.prog G106 Tryz.f106 A106 R106
noncomputable def lpc_Guess_L1_B (os vs : List AV) (μ : AMem) : Option Res := joinK [(5, .i .i64), (12, .i .i64)] vs (envO [0, 1, 11] os) fun e => den Tryz.prog G106 Tryz.f106.ntmps (cL (cL (cR (cL (cR (cR (bodyOf Tryz.f106))))))) (aL (aL (aR (aL (aR (aR A106)))))) { ret := R106, exits := [(0, [(5, .i .i64)])] } Res e μ fun ex e μ => some (ex, valsOf (Lv.at { ret := R106, exits := [(0, [(5, .i .i64)])] } [(5, .i .i64), (12, .i .i64)] ex) e, μ)
noncomputable def lpc_Guess_L1 (os vs : List AV) (μ : AMem) : Option Res := loopA (lpc_Guess_L1_B os) vs μ
theorem lpc_Guess_L1_B_eq (s0 : SV) (s1 : SV) (s11 : Int) (s5 : Int) (s12 : Int) (μ : AMem) : lpc_Guess_L1_B [.s s0, .s s1, .s (.int .i64 s11)] [.s (.int .i64 s5), .s (.int .i64 s12)] μ =
 bif decide (s12 < s11) then
 (seqJ
 (indS 1 (.s s1) s12 fun p14 =>
 loadAt μ p14 fun v15 =>
 asI .i64 v15 fun n16 =>
 (lpc_coef [.s (.int .i64 n16)] μ).bind fun r17 =>
 asB r17.1 fun b18 =>
 bif b18 then
 (indS 1 (.s s1) s12 fun p19 =>
 loadAt r17.2 p19 fun v20 =>
 asI .i64 v20 fun n21 =>
 (lenS (.s s0)).bind fun l22 =>
 indS 1 (.s s0) (IntKind.wrap .i64 ((IntKind.wrap .i64 (((l22 : Nat) : Int) - 1)) - s12)) fun p23 =>
 loadAt r17.2 p23 fun v24 =>
 asI .i64 v24 fun n25 =>
 (lpc_cut [.s (.int .i64 n25)] r17.2).bind fun r26 =>
 asI .i64 r26.1 fun n27 =>
 checkA ((loadAt r26.2 p19 some) = some (.s (.int .i64 n21)))
 (some (.normal, [.s (.int .i64 (IntKind.wrap .i64 (s5 + (IntKind.wrap .i64 (n21 * n27)))))], r26.2)))
 else
 (some (.normal, [.s (.int .i64 s5)], r17.2)))
 (fun vs28 m29 =>
 headK vs28 fun a30 r31 =>
 asI .i64 a30 fun n32 =>
 some (.normal, [.s (.int .i64 n32), .s (.int .i64 (IntKind.wrap .i64 (s12 + 1)))], m29))
 (fun vs33 m34 =>
 headK vs33 fun a38 r39 =>
 asI .i64 a38 fun n40 =>
 some (.ret, [.s (.int .i64 n40)], m34))
 (fun d37 vs35 m36 =>
 none))
 else
 (some (.exit 0, [.s (.int .i64 s5)], μ)) := by rw [← G106_123, ← G106_124]; kernel_rfl
theorem lpc_Guess_L1_eq (os vs : List AV) (μ : AMem) : lpc_Guess_L1 os vs μ = (lpc_Guess_L1_B os vs μ).bind fun r => match r.1 with | .normal => lpc_Guess_L1 os r.2.1 r.2.2 | _ => some r := loopA_eq _ _ _
theorem lpc_Guess_eq (p0 : SV) (p1 : SV) (μ : AMem) : lpc_Guess [.s p0, .s p1] μ =
 (lenS (.s p0)).bind fun l1 =>
 (lenS (.s p1)).bind fun l2 =>
 seqJ (lpc_Guess_L1 [.s p0, .s p1, .s (.int .i64 (if 12 < (if ((l2 : Nat) : Int) < ((l1 : Nat) : Int) then ((l2 : Nat) : Int) else ((l1 : Nat) : Int)) then 12 else (if ((l2 : Nat) : Int) < ((l1 : Nat) : Int) then ((l2 : Nat) : Int) else ((l1 : Nat) : Int))))] [.s (.int .i64 0), .s (.int .i64 0)] μ)
 (fun _ _ => none)
 (fun vs3 m4 =>
 headK vs3 fun a8 r9 =>
 asI .i64 a8 fun n10 =>
 some (.s (.int .i64 n10), m4))
 (fun d7 vs5 m6 =>
 bif Nat.beq 0 d7 then (headK vs5 fun a11 r12 =>
 asI .i64 a11 fun n13 =>
 some (.s (.int .i64 (Int.fdiv n13 (2 ^ (12 : Nat)))), m6)) else (none)) := by kernel_rfl

noncomputable def G93 : FuncId → FunA := fun g => bif Nat.beq g 104 then lpc_May else bif Nat.beq g 37 then fixed_Check else bif Nat.beq g 106 then lpc_Guess else fun _ _ => none
theorem G93_104 : G93 104 = lpc_May := by kernel_rfl
theorem G93_37 : G93 37 = fixed_Check := by kernel_rfl
theorem G93_106 : G93 106 = lpc_Guess := by kernel_rfl
def A93 : Ann := .two (.leaf) (.two (.join [(18, .b)] [0, 1] [] (.leaf) (.two (.two (.leaf) (.leaf)) (.leaf))) (.two (.two (.leaf) (.two (.leaf) (.two (.two (.leaf) (.leaf)) (.leaf)))) (.two (.leaf) (.two (.two (.leaf) (.join [(7, .s)] [] [] (.loop [(7, .s), (8, .i .i64)] [0, 1] [0] (.two (.two (.leaf) (.two (.leaf) (.leaf))) (.two (.join [(0, .s), (1, .s), (7, .s), (8, .i .i64)] [] [] (.ord [0, 1, 2, 3, 4, 5, 6, 7, 8, 9, 10, 11, 12, 13]) .leaf) (.leaf)))) .leaf)) (.two (.leaf) (.leaf))))))
def R93 : Slots := [(4, .s), (5, .i .i64)]
noncomputable def lpc_Residual : FunA := denF Tryz.prog G93 Tryz.f93 A93 R93
noncomputable def lpc_Residual_L1_B (os vs : List AV) (μ : AMem) : Option Res := joinK [(7, .s), (8, .i .i64)] vs (envO [0, 1] os) fun e => den Tryz.prog G93 Tryz.f93.ntmps (cL (cL (cR (cL (cR (cR (cR (cR (bodyOf Tryz.f93))))))))) (aL (aL (aR (aL (aR (aR (aR (aR A93)))))))) { ret := R93, exits := [(0, [(7, .s)])] } Res e μ fun ex e μ => some (ex, valsOf (Lv.at { ret := R93, exits := [(0, [(7, .s)])] } [(7, .s), (8, .i .i64)] ex) e, μ)
noncomputable def lpc_Residual_L1 (os vs : List AV) (μ : AMem) : Option Res := loopA (lpc_Residual_L1_B os) vs μ
theorem lpc_Residual_L1_B_eq (s0 : SV) (s1 : SV) (s7 : SV) (s8 : Int) (μ : AMem) : lpc_Residual_L1_B [.s s0, .s s1] [.s s7, .s (.int .i64 s8)] μ =
 (lenS (.s s0)).bind fun l38 =>
 bif decide (s8 < ((l38 : Nat) : Int)) then
 (indS 1 (.s s0) s8 fun p39 =>
 loadAt (μ.bump 14) p39 fun v40 =>
 asI .i64 v40 fun n41 =>
 cutS 1 (.s s0) 0 s8 fun x42 =>
 (lpc_Guess [x42, .s s1] (μ.bump 14)).bind fun r43 =>
 asI .i64 r43.1 fun n44 =>
 checkA ((loadAt r43.2 p39 some) = some (.s (.int .i64 n41)))
 (checkA (r43.2.obj (μ.next + 11) = none)
 (appendA 3 1 8 (μ.next + 12) (r43.2.set (μ.next + 11) (rowObj [.int .i64 (IntKind.wrap .i64 (n41 - n44))] 1 3 (some 1))) (.s s7) (.s (.slice (μ.next + 11) 0 0 1)) fun x45 m46 =>
 asS x45 fun x47 =>
 some (.normal, [.s x47, .s (.int .i64 (IntKind.wrap .i64 (s8 + 1)))], m46))))
 else
 (some (.exit 0, [.s s7], μ)) := by rw [← G93_106]; kernel_rfl
theorem lpc_Residual_L1_eq (os vs : List AV) (μ : AMem) : lpc_Residual_L1 os vs μ = (lpc_Residual_L1_B os vs μ).bind fun r => match r.1 with | .normal => lpc_Residual_L1 os r.2.1 r.2.2 | _ => some r := loopA_eq _ _ _
theorem lpc_Residual_eq (p0 : SV) (p1 : SV) (μ : AMem) : lpc_Residual [.s p0, .s p1] μ =
 seqJ
 ((lpc_May [.s p1] μ).bind fun r1 =>
 asB r1.1 fun b2 =>
 bif !(!b2) then
 ((lenS (.s p0)).bind fun l3 =>
 (lenS (.s p1)).bind fun l4 =>
 some (.normal, [.s (.bool (decide (((l3 : Nat) : Int) < ((l4 : Nat) : Int))))], r1.2))
 else
 (some (.normal, [.s (.bool true)], r1.2)))
 (fun vs5 m6 =>
 headK vs5 fun a7 r8 =>
 asB a7 fun b9 =>
 bif b9 then
 (some (.tuple [.s .nilSlice, .s (.int .i64 1)], m6))
 else
 ((fixed_Check [.s p0] m6).bind fun r10 =>
 asI .i64 r10.1 fun n11 =>
 bif (n11 != 0) then
 (some (.tuple [.s .nilSlice, .s (.int .i64 n11)], r10.2))
 else
 ((lenS (.s p1)).bind fun l12 =>
 seqJ (lpc_Residual_L1 [.s p0, .s p1] [.s .nilSlice, .s (.int .i64 ((l12 : Nat) : Int))] r10.2)
 (fun _ _ => none)
 (fun vs13 m14 =>
 headK vs13 fun a18 r19 =>
 asS a18 fun x20 =>
 headK r19 fun a21 r22 =>
 asI .i64 a21 fun n23 =>
 some (.tuple [.s x20, .s (.int .i64 n23)], m14))
 (fun d17 vs15 m16 =>
 bif Nat.beq 0 d17 then (headK vs15 fun a24 r25 =>
 asS a24 fun x26 =>
 some (.tuple [.s x26, .s (.int .i64 0)], m16)) else (none)))))
 (fun vs27 m28 =>
 headK vs27 fun a32 r33 =>
 asS a32 fun x34 =>
 headK r33 fun a35 r36 =>
 asI .i64 a35 fun n37 =>
 some (.tuple [.s x34, .s (.int .i64 n37)], m28))
 (fun d31 vs29 m30 =>
 none) := by rw [← G93_104, ← G93_37]; kernel_rfl

noncomputable def G65 : FuncId → FunA := fun g => bif Nat.beq g 92 then levin_Coefficients else bif Nat.beq g 93 then lpc_Residual else bif Nat.beq g 62 then frame_samples else bif Nat.beq g 61 then bits_Writer_Put else bif Nat.beq g 64 then frame_residuals else fun _ _ => none
theorem G65_92 : G65 92 = levin_Coefficients := by kernel_rfl
theorem G65_93 : G65 93 = lpc_Residual := by kernel_rfl
theorem G65_62 : G65 62 = frame_samples := by kernel_rfl
theorem G65_61 : G65 61 = bits_Writer_Put := by kernel_rfl
theorem G65_64 : G65 64 = frame_residuals := by kernel_rfl
def A65 : Ann := .two (.leaf) (.two (.leaf) (.two (.two (.leaf) (.two (.two (.leaf) (.leaf)) (.leaf))) (.two (.leaf) (.two (.two (.leaf) (.two (.two (.leaf) (.leaf)) (.leaf))) (.two (.leaf) (.two (.two (.leaf) (.join [(0, .s), (9, .s)] [] [] (.loop [(36, .i .i64)] [0, 9, 34, 35] [0] (.two (.leaf) (.two (.two (.leaf) (.leaf)) (.two (.join [(0, .s), (9, .s), (34, .s), (35, .i .i64), (36, .i .i64)] [] [] (.two (.leaf) (.leaf)) .leaf) (.leaf))))) .leaf)) (.two (.leaf) (.leaf))))))))
def R65 : Slots := [(6, .b)]
noncomputable def frame_predicted : FunA := denF Tryz.prog G65 Tryz.f65 A65 R65
noncomputable def frame_predicted_L1_B (os vs : List AV) (μ : AMem) : Option Res := joinK [(36, .i .i64)] vs (envO [0, 9, 34, 35] os) fun e => den Tryz.prog G65 Tryz.f65.ntmps (cL (cL (cR (cL (cR (cR (cR (cR (cR (cR (bodyOf Tryz.f65))))))))))) (aL (aL (aR (aL (aR (aR (aR (aR (aR (aR A65)))))))))) { ret := R65, exits := [(0, [(0, .s), (9, .s)])] } Res e μ fun ex e μ => some (ex, valsOf (Lv.at { ret := R65, exits := [(0, [(0, .s), (9, .s)])] } [(36, .i .i64)] ex) e, μ)
noncomputable def frame_predicted_L1 (os vs : List AV) (μ : AMem) : Option Res := loopA (frame_predicted_L1_B os) vs μ
theorem frame_predicted_L1_B_eq (s0 t0 u0 : Nat) (s9 : SV) (s34 : SV) (s35 : Int) (s36 : Int) (μ : AMem) : frame_predicted_L1_B [.s (.ptr s0 t0 u0), .s s9, .s s34, .s (.int .i64 s35)] [.s (.int .i64 s36)] μ =
 bif decide (s36 < s35) then
 (indS 1 (.s s34) s36 fun p30 =>
 loadAt μ p30 fun v31 =>
 asI .i64 v31 fun n32 =>
 (bits_Writer_Put [.s (.ptr s0 t0 u0), .s (.int .i64 (IntKind.wrap .i64 (n32 + 32768))), .s (.int .i64 16)] μ).bind fun r33 =>
 asB r33.1 fun b34 =>
 some (.normal, [.s (.int .i64 (IntKind.wrap .i64 (s36 + 1)))], r33.2))
 else
 (some (.exit 0, [.s (.ptr s0 t0 u0), .s s9], μ)) := by rw [← G65_61]; kernel_rfl
theorem frame_predicted_L1_eq (os vs : List AV) (μ : AMem) : frame_predicted_L1 os vs μ = (frame_predicted_L1_B os vs μ).bind fun r => match r.1 with | .normal => frame_predicted_L1 os r.2.1 r.2.2 | _ => some r := loopA_eq _ _ _
theorem frame_predicted_eq (p0 q0 o0 : Nat) (p1 : SV) (p2 : Int) (μ : AMem) : frame_predicted [.s (.ptr p0 q0 o0), .s p1, .s (.int .i64 p2)] μ =
 (levin_Coefficients [.s p1, .s (.int .i64 p2)] μ).bind fun r1 =>
 extrK 0 r1.1 fun t2 =>
 asS t2 fun x3 =>
 extrK 1 r1.1 fun t4 =>
 asB t4 fun b5 =>
 bif (!b5) then
 (some (.s (.bool false), r1.2))
 else
 ((lpc_Residual [.s p1, .s x3] r1.2).bind fun r6 =>
 extrK 0 r6.1 fun t7 =>
 asS t7 fun x8 =>
 extrK 1 r6.1 fun t9 =>
 asI .i64 t9 fun n10 =>
 bif (n10 != 0) then
 (some (.s (.bool false), r6.2))
 else
 (cutS 1 (.s p1) 0 p2 fun x11 =>
 (frame_samples [.s (.ptr p0 q0 o0), x11] r6.2).bind fun r12 =>
 (lenS (.s x3)).bind fun l13 =>
 seqJ (frame_predicted_L1 [.s (.ptr p0 q0 o0), .s x8, .s x3, .s (.int .i64 ((l13 : Nat) : Int))] [.s (.int .i64 0)] r12.2)
 (fun _ _ => none)
 (fun vs14 m15 =>
 headK vs14 fun a19 r20 =>
 asB a19 fun b21 =>
 some (.s (.bool b21), m15))
 (fun d18 vs16 m17 =>
 bif Nat.beq 0 d18 then (headK vs16 fun a22 r23 =>
 asS a22 fun x24 =>
 headK r23 fun a25 r26 =>
 asS a25 fun x27 =>
 (frame_residuals [.s x24, .s x27] m17).bind fun r28 =>
 asB r28.1 fun b29 =>
 some (.s (.bool b29), r28.2)) else (none)))) := by rw [← G65_92, ← G65_93, ← G65_62, ← G65_64]; kernel_rfl

noncomputable def G38 : FuncId → FunA := fun g => bif Nat.beq g 60 then bits_NewWriter else bif Nat.beq g 61 then bits_Writer_Put else bif Nat.beq g 62 then frame_samples else bif Nat.beq g 63 then fixed_Residual else bif Nat.beq g 64 then frame_residuals else bif Nat.beq g 65 then frame_predicted else fun _ _ => none
theorem G38_60 : G38 60 = bits_NewWriter := by kernel_rfl
theorem G38_61 : G38 61 = bits_Writer_Put := by kernel_rfl
theorem G38_62 : G38 62 = frame_samples := by kernel_rfl
theorem G38_63 : G38 63 = fixed_Residual := by kernel_rfl
theorem G38_64 : G38 64 = frame_residuals := by kernel_rfl
theorem G38_65 : G38 65 = frame_predicted := by kernel_rfl
def A38 : Ann := .two (.leaf) (.two (.leaf) (.two (.leaf) (.two (.leaf) (.join [] [6] [] (.join [(6, .s)] [] [] (.two (.leaf) (.two (.two (.two (.leaf) (.join [(1, .s), (6, .s)] [] [] (.loop [(25, .i .i64)] [1, 6, 23, 24] [1] (.two (.leaf) (.two (.two (.leaf) (.leaf)) (.two (.join [(1, .s), (6, .s), (23, .s), (24, .i .i64), (25, .i .i64)] [] [] (.two (.leaf) (.two (.leaf) (.two (.two (.leaf) (.leaf)) (.leaf)))) .leaf) (.leaf))))) .leaf)) (.leaf)) (.two (.leaf) (.two (.leaf) (.join [(45, .b)] [0, 1, 6] [] (.leaf) (.two (.two (.leaf) (.two (.leaf) (.two (.two (.leaf) (.two (.two (.leaf) (.leaf)) (.leaf))) (.two (.leaf) (.two (.leaf) (.leaf)))))) (.join [(71, .b)] [0, 1, 6] [] (.leaf) (.two (.two (.leaf) (.leaf)) (.two (.leaf) (.leaf)))))))))) .leaf) (.two (.leaf) (.leaf))))))
def R38 : Slots := [(4, .s), (5, .b)]
noncomputable def frame_digits : FunA := denF Tryz.prog G38 Tryz.f38 A38 R38
noncomputable def frame_digits_L1_B (os vs : List AV) (μ : AMem) : Option Res := joinK [(25, .i .i64)] vs (envO [1, 6, 23, 24] os) fun e => den Tryz.prog G38 Tryz.f38.ntmps (cL (cL (cR (cL (cL (cR (cL (cL (cR (cR (cR (cR (bodyOf Tryz.f38))))))))))))) (aL (aL (aR (aL (aL (aR (aL (aL (aR (aR (aR (aR A38)))))))))))) { ret := R38, exits := [(1, [(1, .s), (6, .s)]), (0, [(6, .s)])] } Res e μ fun ex e μ => some (ex, valsOf (Lv.at { ret := R38, exits := [(1, [(1, .s), (6, .s)]), (0, [(6, .s)])] } [(25, .i .i64)] ex) e, μ)
noncomputable def frame_digits_L1 (os vs : List AV) (μ : AMem) : Option Res := loopA (frame_digits_L1_B os) vs μ
theorem frame_digits_L1_B_eq (s1 : SV) (s6 : SV) (s23 : SV) (s24 : Int) (s25 : Int) (μ : AMem) : frame_digits_L1_B [.s s1, .s s6, .s s23, .s (.int .i64 s24)] [.s (.int .i64 s25)] μ =
 bif decide (s25 < s24) then
 (indS 1 (.s s23) s25 fun p85 =>
 loadAt μ p85 fun v86 =>
 asI .i64 v86 fun n87 =>
 indS 1 (.s s1) 0 fun p88 =>
 loadAt μ p88 fun v89 =>
 asI .i64 v89 fun n90 =>
 bif (n87 != n90) then
 (some (.ret, [.s .nilPtr, .s (.bool false)], μ))
 else
 (some (.normal, [.s (.int .i64 (IntKind.wrap .i64 (s25 + 1)))], μ)))
 else
 (some (.exit 1, [.s s1, .s s6], μ)) := by kernel_rfl
theorem frame_digits_L1_eq (os vs : List AV) (μ : AMem) : frame_digits_L1 os vs μ = (frame_digits_L1_B os vs μ).bind fun r => match r.1 with | .normal => frame_digits_L1 os r.2.1 r.2.2 | _ => some r := loopA_eq _ _ _
theorem frame_digits_eq (p0 : Int) (p1 : SV) (μ : AMem) : frame_digits [.s (.int .i64 p0), .s p1] μ =
 (bits_NewWriter [] μ).bind fun r1 =>
 asS r1.1 fun x2 =>
 (bits_Writer_Put [.s x2, .s (.int .i64 p0), .s (.int .i64 8)] r1.2).bind fun r3 =>
 asB r3.1 fun b4 =>
 (lenS (.s p1)).bind fun l5 =>
 (bits_Writer_Put [.s x2, .s (.int .i64 ((l5 : Nat) : Int)), .s (.int .i64 8)] r3.2).bind fun r6 =>
 asB r6.1 fun b7 =>
 seqJ
 (bif (p0 == 0) then
 ((lenS (.s p1)).bind fun l8 =>
 seqJ (frame_digits_L1 [.s p1, .s x2, .s p1, .s (.int .i64 ((l8 : Nat) : Int))] [.s (.int .i64 0)] r6.2)
 (fun _ _ => none)
 (fun vs9 m10 =>
 headK vs9 fun a14 r15 =>
 asS a14 fun x16 =>
 headK r15 fun a17 r18 =>
 asB a17 fun b19 =>
 some (.ret, [.s x16, .s (.bool b19)], m10))
 (fun d13 vs11 m12 =>
 bif Nat.beq 1 d13 then (headK vs11 fun a20 r21 =>
 asS a20 fun x22 =>
 headK r21 fun a23 r24 =>
 asS a23 fun x25 =>
 cutS 1 (.s x22) 0 1 fun x26 =>
 (frame_samples [.s x25, x26] m12).bind fun r27 =>
 some (.normal, [], r27.2)) else (none)))
 else
 (bif (p0 == 1) then
 ((frame_samples [.s x2, .s p1] r6.2).bind fun r28 =>
 some (.normal, [], r28.2))
 else
 (seqJ
 (bif decide (p0 ≥ 2) then
 (some (.normal, [.s (.bool (decide (p0 ≤ 6)))], r6.2))
 else
 (some (.normal, [.s (.bool false)], r6.2)))
 (fun vs29 m30 =>
 headK vs29 fun a31 r32 =>
 asB a31 fun b33 =>
 bif b33 then
 ((fixed_Residual [.s p1, .s (.int .i64 (IntKind.wrap .i64 (p0 - 2)))] m30).bind fun r34 =>
 extrK 0 r34.1 fun t35 =>
 asS t35 fun x36 =>
 extrK 1 r34.1 fun t37 =>
 asI .i64 t37 fun n38 =>
 bif (n38 != 0) then
 (some (.ret, [.s .nilPtr, .s (.bool false)], r34.2))
 else
 (cutS 1 (.s p1) 0 (IntKind.wrap .i64 (p0 - 2)) fun x39 =>
 (frame_samples [.s x2, x39] r34.2).bind fun r40 =>
 (frame_residuals [.s x2, .s x36] r40.2).bind fun r41 =>
 asB r41.1 fun b42 =>
 some (.ret, [.s x2, .s (.bool b42)], r41.2)))
 else
 (seqJ
 (bif decide (p0 > 6) then
 (some (.normal, [.s (.bool (decide (p0 ≤ 18)))], m30))
 else
 (some (.normal, [.s (.bool false)], m30)))
 (fun vs43 m44 =>
 headK vs43 fun a45 r46 =>
 asB a45 fun b47 =>
 bif b47 then
 ((frame_predicted [.s x2, .s p1, .s (.int .i64 (IntKind.wrap .i64 (p0 - 6)))] m44).bind fun r48 =>
 asB r48.1 fun b49 =>
 some (.ret, [.s x2, .s (.bool b49)], r48.2))
 else
 (some (.ret, [.s .nilPtr, .s (.bool false)], m44)))
 (fun vs50 m51 =>
 headK vs50 fun a55 r56 =>
 asS a55 fun x57 =>
 headK r56 fun a58 r59 =>
 asB a58 fun b60 =>
 some (.ret, [.s x57, .s (.bool b60)], m51))
 (fun d54 vs52 m53 =>
 none)))
 (fun vs61 m62 =>
 headK vs61 fun a66 r67 =>
 asS a66 fun x68 =>
 headK r67 fun a69 r70 =>
 asB a69 fun b71 =>
 some (.ret, [.s x68, .s (.bool b71)], m62))
 (fun d65 vs63 m64 =>
 none))))
 (fun vs72 m73 =>
 some (.tuple [.s x2, .s (.bool true)], m73))
 (fun vs74 m75 =>
 headK vs74 fun a79 r80 =>
 asS a79 fun x81 =>
 headK r80 fun a82 r83 =>
 asB a82 fun b84 =>
 some (.tuple [.s x81, .s (.bool b84)], m75))
 (fun d78 vs76 m77 =>
 none) := by rw [← G38_60, ← G38_61, ← G38_62, ← G38_63, ← G38_64, ← G38_65]; kernel_rfl

noncomputable def G39 : FuncId → FunA := fun _ _ _ => none
def A39 : Ann := .two (.leaf) (.two (.leaf) (.leaf))
def R39 : Slots := [(2, .i .i64)]
noncomputable def bits_Writer_Len : FunA := denF Tryz.prog G39 Tryz.f39 A39 R39
theorem bits_Writer_Len_eq (p0 q0 o0 : Nat) (μ : AMem) : bits_Writer_Len [.s (.ptr p0 q0 o0)] μ =
 (μ.cell p0 q0 (o0 + 1)).bind fun x1 =>
 asI .i64 (.s x1) fun n2 =>
 some (.s (.int .i64 n2), μ) := by kernel_rfl

noncomputable def G40 : FuncId → FunA := fun _ _ _ => none
def A40 : Ann := .two (.leaf) (.two (.leaf) (.leaf))
def R40 : Slots := [(2, .s)]
noncomputable def bits_Writer_Bytes : FunA := denF Tryz.prog G40 Tryz.f40 A40 R40
theorem bits_Writer_Bytes_eq (p0 q0 o0 : Nat) (μ : AMem) : bits_Writer_Bytes [.s (.ptr p0 q0 o0)] μ =
 ((μ.bump 6).cell p0 q0 (o0 + 0)).bind fun x1 =>
 appendA 5 1 1 (μ.next + 4) (μ.bump 6) (.s .nilSlice) (.s x1) fun x2 m3 =>
 asS x2 fun x4 =>
 some (.s x4, m3) := by kernel_rfl

noncomputable def G27 : FuncId → FunA := fun g => bif Nat.beq g 37 then fixed_Check else bif Nat.beq g 38 then frame_digits else bif Nat.beq g 39 then bits_Writer_Len else bif Nat.beq g 40 then bits_Writer_Bytes else fun _ _ => none
theorem G27_37 : G27 37 = fixed_Check := by kernel_rfl
theorem G27_38 : G27 38 = frame_digits := by kernel_rfl
theorem G27_39 : G27 39 = bits_Writer_Len := by kernel_rfl
theorem G27_40 : G27 40 = bits_Writer_Bytes := by kernel_rfl
def A27 : Ann := .two (.leaf) (.two (.join [(16, .b)] [0] [] (.leaf) (.two (.two (.leaf) (.leaf)) (.leaf))) (.two (.two (.leaf) (.two (.leaf) (.two (.two (.leaf) (.leaf)) (.leaf)))) (.two (.leaf) (.two (.two (.leaf) (.join [(5, .s)] [] [] (.loop [(5, .s), (22, .i .i64)] [0] [0] (.two (.leaf) (.two (.two (.leaf) (.leaf)) (.join [(5, .s)] [0, 22] [] (.join [(0, .s), (5, .s), (22, .i .i64)] [] [] (.two (.leaf) (.two (.leaf) (.join [(42, .b)] [0, 5, 7, 22] [] (.leaf) (.two (.leaf) (.leaf))))) .leaf) (.leaf))))) .leaf)) (.two (.leaf) (.leaf))))))
def R27 : Slots := [(2, .s), (3, .i .i64)]
noncomputable def frame_Encode : FunA := denF Tryz.prog G27 Tryz.f27 A27 R27
noncomputable def frame_Encode_L1_B (os vs : List AV) (μ : AMem) : Option Res := joinK [(5, .s), (22, .i .i64)] vs (envO [0] os) fun e => den Tryz.prog G27 Tryz.f27.ntmps (cL (cL (cR (cL (cR (cR (cR (cR (bodyOf Tryz.f27))))))))) (aL (aL (aR (aL (aR (aR (aR (aR A27)))))))) { ret := R27, exits := [(0, [(5, .s)])] } Res e μ fun ex e μ => some (ex, valsOf (Lv.at { ret := R27, exits := [(0, [(5, .s)])] } [(5, .s), (22, .i .i64)] ex) e, μ)
noncomputable def frame_Encode_L1 (os vs : List AV) (μ : AMem) : Option Res := loopA (frame_Encode_L1_B os) vs μ
theorem frame_Encode_L1_B_eq (s0 : SV) (s5 : SV) (s22 : Int) (μ : AMem) : frame_Encode_L1_B [.s s0] [.s s5, .s (.int .i64 s22)] μ =
 bif decide (s22 < 19) then
 (seqJ
 ((frame_digits [.s (.int .i64 s22), .s s0] μ).bind fun r37 =>
 extrK 0 r37.1 fun t38 =>
 asS t38 fun x39 =>
 extrK 1 r37.1 fun t40 =>
 asB t40 fun b41 =>
 seqJ
 (bif b41 then
 ((isNil (.s s5)).bind fun b42 =>
 bif !b42 then
 ((bits_Writer_Len [.s x39] r37.2).bind fun r43 =>
 asI .i64 r43.1 fun n44 =>
 (bits_Writer_Len [.s s5] r43.2).bind fun r45 =>
 asI .i64 r45.1 fun n46 =>
 some (.normal, [.s (.bool (decide (n44 < n46)))], r45.2))
 else
 (some (.normal, [.s (.bool true)], r37.2)))
 else
 (some (.normal, [.s (.bool false)], r37.2)))
 (fun vs47 m48 =>
 headK vs47 fun a49 r50 =>
 asB a49 fun b51 =>
 bif b51 then
 (some (.normal, [.s x39], m48))
 else
 (some (.normal, [.s s5], m48)))
 (fun vs52 m53 =>
 headK vs52 fun a57 r58 =>
 asS a57 fun x59 =>
 headK r58 fun a60 r61 =>
 asI .i64 a60 fun n62 =>
 some (.ret, [.s x59, .s (.int .i64 n62)], m53))
 (fun d56 vs54 m55 =>
 none))
 (fun vs63 m64 =>
 headK vs63 fun a65 r66 =>
 asS a65 fun x67 =>
 some (.normal, [.s x67, .s (.int .i64 (IntKind.wrap .i64 (s22 + 1)))], m64))
 (fun vs68 m69 =>
 headK vs68 fun a73 r74 =>
 asS a73 fun x75 =>
 headK r74 fun a76 r77 =>
 asI .i64 a76 fun n78 =>
 some (.ret, [.s x75, .s (.int .i64 n78)], m69))
 (fun d72 vs70 m71 =>
 none))
 else
 (some (.exit 0, [.s s5], μ)) := by rw [← G27_38, ← G27_39]; kernel_rfl
theorem frame_Encode_L1_eq (os vs : List AV) (μ : AMem) : frame_Encode_L1 os vs μ = (frame_Encode_L1_B os vs μ).bind fun r => match r.1 with | .normal => frame_Encode_L1 os r.2.1 r.2.2 | _ => some r := loopA_eq _ _ _
theorem frame_Encode_eq (p0 : SV) (μ : AMem) : frame_Encode [.s p0] μ =
 seqJ
 ((lenS (.s p0)).bind fun l1 =>
 bif !(decide (((l1 : Nat) : Int) < 1)) then
 ((lenS (.s p0)).bind fun l2 =>
 some (.normal, [.s (.bool (decide (((l2 : Nat) : Int) > 64)))], μ))
 else
 (some (.normal, [.s (.bool true)], μ)))
 (fun vs3 m4 =>
 headK vs3 fun a5 r6 =>
 asB a5 fun b7 =>
 bif b7 then
 (some (.tuple [.s .nilSlice, .s (.int .i64 4)], m4))
 else
 ((fixed_Check [.s p0] m4).bind fun r8 =>
 asI .i64 r8.1 fun n9 =>
 bif (n9 != 0) then
 (some (.tuple [.s .nilSlice, .s (.int .i64 n9)], r8.2))
 else
 (seqJ (frame_Encode_L1 [.s p0] [.s .nilPtr, .s (.int .i64 0)] r8.2)
 (fun _ _ => none)
 (fun vs10 m11 =>
 headK vs10 fun a15 r16 =>
 asS a15 fun x17 =>
 headK r16 fun a18 r19 =>
 asI .i64 a18 fun n20 =>
 some (.tuple [.s x17, .s (.int .i64 n20)], m11))
 (fun d14 vs12 m13 =>
 bif Nat.beq 0 d14 then (headK vs12 fun a21 r22 =>
 asS a21 fun x23 =>
 (bits_Writer_Bytes [.s x23] m13).bind fun r24 =>
 asS r24.1 fun x25 =>
 some (.tuple [.s x25, .s (.int .i64 0)], r24.2)) else (none)))))
 (fun vs26 m27 =>
 headK vs26 fun a31 r32 =>
 asS a31 fun x33 =>
 headK r32 fun a34 r35 =>
 asI .i64 a34 fun n36 =>
 some (.tuple [.s x33, .s (.int .i64 n36)], m27))
 (fun d30 vs28 m29 =>
 none) := by rw [← G27_37, ← G27_40]; kernel_rfl

noncomputable def G31 : FuncId → FunA := fun _ _ _ => none
noncomputable def atomic_Int64_Add : FunA := addI64F

noncomputable def G127 : FuncId → FunA := fun _ _ _ => none
def A127 : Ann := .two (.leaf) (.two (.two (.leaf) (.join [(0, .i .u32)] [] [] (.loop [(0, .i .u32), (4, .i .i64)] [] [0] (.two (.leaf) (.two (.two (.leaf) (.leaf)) (.join [(0, .i .u32)] [4] [] (.join [(0, .i .u32), (4, .i .i64)] [] [] (.two (.leaf) (.two (.leaf) (.two (.leaf) (.two (.leaf) (.leaf))))) .leaf) (.leaf))))) .leaf)) (.two (.leaf) (.leaf)))
def R127 : Slots := [(2, .i .u32)]
noncomputable def crc_step : FunA := denF Tryz.prog G127 Tryz.f127 A127 R127
noncomputable def crc_step_L1_B (os vs : List AV) (μ : AMem) : Option Res := joinK [(0, .i .u32), (4, .i .i64)] vs (envO [] os) fun e => den Tryz.prog G127 Tryz.f127.ntmps (cL (cL (cR (cL (cR (bodyOf Tryz.f127)))))) (aL (aL (aR (aL (aR A127))))) { ret := R127, exits := [(0, [(0, .i .u32)])] } Res e μ fun ex e μ => some (ex, valsOf (Lv.at { ret := R127, exits := [(0, [(0, .i .u32)])] } [(0, .i .u32), (4, .i .i64)] ex) e, μ)
noncomputable def crc_step_L1 (os vs : List AV) (μ : AMem) : Option Res := loopA (crc_step_L1_B os) vs μ
theorem crc_step_L1_B_eq (s0 : Int) (s4 : Int) (μ : AMem) : crc_step_L1_B [] [.s (.int .u32 s0), .s (.int .i64 s4)] μ =
 bif decide (s4 < 8) then
 (seqJ
 (bif ((Int.fdiv s0 (2 ^ (31 : Nat))) == 1) then
 (some (.normal, [.s (.int .u32 (IntKind.wrap .u32 (BitVec.toNat ((BitVec.ofInt (IntKind.bits .u32) (IntKind.wrap .u32 (s0 * 2 ^ (1 : Nat)))) ^^^ (BitVec.ofInt (IntKind.bits .u32) 79764919)))))], μ))
 else
 (some (.normal, [.s (.int .u32 (IntKind.wrap .u32 (s0 * 2 ^ (1 : Nat))))], μ)))
 (fun vs12 m13 =>
 headK vs12 fun a14 r15 =>
 asI .u32 a14 fun n16 =>
 some (.normal, [.s (.int .u32 n16), .s (.int .i64 (IntKind.wrap .i64 (s4 + 1)))], m13))
 (fun vs17 m18 =>
 headK vs17 fun a22 r23 =>
 asI .u32 a22 fun n24 =>
 some (.ret, [.s (.int .u32 n24)], m18))
 (fun d21 vs19 m20 =>
 none))
 else
 (some (.exit 0, [.s (.int .u32 s0)], μ)) := by kernel_rfl
theorem crc_step_L1_eq (os vs : List AV) (μ : AMem) : crc_step_L1 os vs μ = (crc_step_L1_B os vs μ).bind fun r => match r.1 with | .normal => crc_step_L1 os r.2.1 r.2.2 | _ => some r := loopA_eq _ _ _
theorem crc_step_eq (p0 : Int) (μ : AMem) : crc_step [.s (.int .u32 p0)] μ =
 seqJ (crc_step_L1 [] [.s (.int .u32 p0), .s (.int .i64 0)] μ)
 (fun _ _ => none)
 (fun vs1 m2 =>
 headK vs1 fun a6 r7 =>
 asI .u32 a6 fun n8 =>
 some (.s (.int .u32 n8), m2))
 (fun d5 vs3 m4 =>
 bif Nat.beq 0 d5 then (headK vs3 fun a9 r10 =>
 asI .u32 a9 fun n11 =>
 some (.s (.int .u32 n11), m4)) else (none)) := by kernel_rfl

noncomputable def G108 : FuncId → FunA := fun g => bif Nat.beq g 127 then crc_step else fun _ _ => none
theorem G108_127 : G108 127 = crc_step := by kernel_rfl
def A108 : Ann := .two (.two (.leaf) (.join [(0, .s)] [] [] (.loop [(3, .i .i64)] [0] [0] (.two (.leaf) (.two (.two (.leaf) (.leaf)) (.two (.join [(0, .s), (3, .i .i64)] [] [] (.two (.leaf) (.ord [0, 1, 2, 3, 4, 5, 6, 7, 8, 9])) .leaf) (.leaf))))) .leaf)) (.leaf)
def R108 : Slots := []
noncomputable def crc_Table_fill : FunA := denF Tryz.prog G108 Tryz.f108 A108 R108
noncomputable def crc_Table_fill_L1_B (os vs : List AV) (μ : AMem) : Option Res := joinK [(3, .i .i64)] vs (envO [0] os) fun e => den Tryz.prog G108 Tryz.f108.ntmps (cL (cL (cR (cL (bodyOf Tryz.f108))))) (aL (aL (aR (aL A108)))) { ret := R108, exits := [(0, [(0, .s)])] } Res e μ fun ex e μ => some (ex, valsOf (Lv.at { ret := R108, exits := [(0, [(0, .s)])] } [(3, .i .i64)] ex) e, μ)
noncomputable def crc_Table_fill_L1 (os vs : List AV) (μ : AMem) : Option Res := loopA (crc_Table_fill_L1_B os) vs μ
theorem crc_Table_fill_L1_B_eq (s0 t0 u0 : Nat) (s3 : Int) (μ : AMem) : crc_Table_fill_L1_B [.s (.ptr s0 t0 u0)] [.s (.int .i64 s3)] μ =
 bif decide (s3 < 256) then
 ((crc_step [.s (.int .u32 (IntKind.wrap .u32 ((IntKind.wrap .u32 s3) * 2 ^ (24 : Nat))))] μ).bind fun r11 =>
 asI .u32 r11.1 fun n12 =>
 if 0 ≤ s3 ∧ s3 < (256 : Nat) then
 ((r11.2.store s0 t0 ((u0 + 4) + Int.toNat s3 * 1) [.int .u32 n12]).bind fun m13 =>
 some (.normal, [.s (.int .i64 (IntKind.wrap .i64 (s3 + 1)))], m13)) else none)
 else
 (some (.exit 0, [.s (.ptr s0 t0 u0)], μ)) := by rw [← G108_127]; kernel_rfl
theorem crc_Table_fill_L1_eq (os vs : List AV) (μ : AMem) : crc_Table_fill_L1 os vs μ = (crc_Table_fill_L1_B os vs μ).bind fun r => match r.1 with | .normal => crc_Table_fill_L1 os r.2.1 r.2.2 | _ => some r := loopA_eq _ _ _
theorem crc_Table_fill_eq (p0 q0 o0 : Nat) (μ : AMem) : crc_Table_fill [.s (.ptr p0 q0 o0)] μ =
 seqJ (crc_Table_fill_L1 [.s (.ptr p0 q0 o0)] [.s (.int .i64 0)] μ)
 (fun _ _ => none)
 (fun vs1 m2 =>
 some (.tuple [], m2))
 (fun d5 vs3 m4 =>
 bif Nat.beq 0 d5 then (headK vs3 fun a6 r7 =>
 asS a6 fun x8 =>
 nonNil (.s x8)
 (ptrAdd 3 (.s x8) fun p9 =>
 storeAt 1 m4 p9 (.s (.bool true)) fun m10 =>
 some (.tuple [], m10))) else (none)) := by kernel_rfl

noncomputable def G107 : FuncId → FunA := fun g => bif Nat.beq g 108 then crc_Table_fill else fun _ _ => none
theorem G107_108 : G107 108 = crc_Table_fill := by kernel_rfl
noncomputable def sync_Once_Do : FunA := onceF G107

noncomputable def G79 : FuncId → FunA := fun g => bif Nat.beq g 108 then crc_Table_fill else bif Nat.beq g 107 then sync_Once_Do else fun _ _ => none
theorem G79_108 : G79 108 = crc_Table_fill := by kernel_rfl
theorem G79_107 : G79 107 = sync_Once_Do := by kernel_rfl
def A79 : Ann := .two (.leaf) (.join [] [0, 1, 2] [] (.two (.leaf) (.two (.leaf) (.leaf))) (.two (.two (.leaf) (.join [(1, .i .u32)] [] [] (.loop [(1, .i .u32), (20, .i .i64)] [0, 18, 19] [0] (.two (.leaf) (.two (.two (.leaf) (.leaf)) (.two (.join [(0, .s), (1, .i .u32), (18, .s), (19, .i .i64), (20, .i .i64)] [] [] (.two (.leaf) (.leaf)) .leaf) (.leaf))))) .leaf)) (.two (.leaf) (.leaf))))
def R79 : Slots := [(6, .i .u32)]
noncomputable def crc_Table_Add : FunA := denF Tryz.prog G79 Tryz.f79 A79 R79
noncomputable def crc_Table_Add_L1_B (os vs : List AV) (μ : AMem) : Option Res := joinK [(1, .i .u32), (20, .i .i64)] vs (envO [0, 18, 19] os) fun e => den Tryz.prog G79 Tryz.f79.ntmps (cL (cL (cR (cL (cR (cR (bodyOf Tryz.f79))))))) (aL (aL (aR (aL (aR (aR A79)))))) { ret := R79, exits := [(0, [(1, .i .u32)])] } Res e μ fun ex e μ => some (ex, valsOf (Lv.at { ret := R79, exits := [(0, [(1, .i .u32)])] } [(1, .i .u32), (20, .i .i64)] ex) e, μ)
noncomputable def crc_Table_Add_L1 (os vs : List AV) (μ : AMem) : Option Res := loopA (crc_Table_Add_L1_B os) vs μ
theorem crc_Table_Add_L1_B_eq (s0 t0 u0 : Nat) (s18 : SV) (s19 : Int) (s1 : Int) (s20 : Int) (μ : AMem) : crc_Table_Add_L1_B [.s (.ptr s0 t0 u0), .s s18, .s (.int .i64 s19)] [.s (.int .u32 s1), .s (.int .i64 s20)] μ =
 bif decide (s20 < s19) then
 (indS 1 (.s s18) s20 fun p25 =>
 loadAt μ p25 fun v26 =>
 asI .u8 v26 fun n27 =>
 if 0 ≤ (IntKind.wrap .u8 (BitVec.toNat ((BitVec.ofInt (IntKind.bits .u8) (IntKind.wrap .u8 (Int.fdiv s1 (2 ^ (24 : Nat))))) ^^^ (BitVec.ofInt (IntKind.bits .u8) n27)))) ∧ (IntKind.wrap .u8 (BitVec.toNat ((BitVec.ofInt (IntKind.bits .u8) (IntKind.wrap .u8 (Int.fdiv s1 (2 ^ (24 : Nat))))) ^^^ (BitVec.ofInt (IntKind.bits .u8) n27)))) < (256 : Nat) then
 ((μ.cell s0 t0 ((u0 + 4) + Int.toNat (IntKind.wrap .u8 (BitVec.toNat ((BitVec.ofInt (IntKind.bits .u8) (IntKind.wrap .u8 (Int.fdiv s1 (2 ^ (24 : Nat))))) ^^^ (BitVec.ofInt (IntKind.bits .u8) n27)))) * 1)).bind fun x28 =>
 asI .u32 (.s x28) fun n29 =>
 some (.normal, [.s (.int .u32 (IntKind.wrap .u32 (BitVec.toNat ((BitVec.ofInt (IntKind.bits .u32) (IntKind.wrap .u32 (s1 * 2 ^ (8 : Nat)))) ^^^ (BitVec.ofInt (IntKind.bits .u32) n29))))), .s (.int .i64 (IntKind.wrap .i64 (s20 + 1)))], μ)) else none)
 else
 (some (.exit 0, [.s (.int .u32 s1)], μ)) := by kernel_rfl
theorem crc_Table_Add_L1_eq (os vs : List AV) (μ : AMem) : crc_Table_Add_L1 os vs μ = (crc_Table_Add_L1_B os vs μ).bind fun r => match r.1 with | .normal => crc_Table_Add_L1 os r.2.1 r.2.2 | _ => some r := loopA_eq _ _ _
theorem crc_Table_Add_eq (p0 q0 o0 : Nat) (p1 : Int) (p2 : SV) (μ : AMem) : crc_Table_Add [.s (.ptr p0 q0 o0), .s (.int .u32 p1), .s p2] μ =
 seqJ
 ((lenS (.s p2)).bind fun l1 =>
 bif decide (((l1 : Nat) : Int) > 0) then
 ((sync_Once_Do [.s (.ptr p0 q0 (o0 + 0)), .s (.bound 108 p0 q0 o0)] μ).bind fun r2 =>
 some (.normal, [], r2.2))
 else
 (some (.normal, [], μ)))
 (fun vs3 m4 =>
 (lenS (.s p2)).bind fun l5 =>
 seqJ (crc_Table_Add_L1 [.s (.ptr p0 q0 o0), .s p2, .s (.int .i64 ((l5 : Nat) : Int))] [.s (.int .u32 p1), .s (.int .i64 0)] m4)
 (fun _ _ => none)
 (fun vs6 m7 =>
 headK vs6 fun a11 r12 =>
 asI .u32 a11 fun n13 =>
 some (.s (.int .u32 n13), m7))
 (fun d10 vs8 m9 =>
 bif Nat.beq 0 d10 then (headK vs8 fun a14 r15 =>
 asI .u32 a14 fun n16 =>
 some (.s (.int .u32 n16), m9)) else (none)))
 (fun vs17 m18 =>
 headK vs17 fun a22 r23 =>
 asI .u32 a22 fun n24 =>
 some (.s (.int .u32 n24), m18))
 (fun d21 vs19 m20 =>
 none) := by rw [← G79_107]; kernel_rfl

noncomputable def G51 : FuncId → FunA := fun g => bif Nat.beq g 79 then crc_Table_Add else fun _ _ => none
theorem G51_79 : G51 79 = crc_Table_Add := by kernel_rfl
def A51 : Ann := .two (.leaf) (.two (.leaf) (.leaf))
def R51 : Slots := [(4, .i .u32)]
noncomputable def crc_Table_Sum : FunA := denF Tryz.prog G51 Tryz.f51 A51 R51
theorem crc_Table_Sum_eq (p0 q0 o0 : Nat) (p1 : SV) (μ : AMem) : crc_Table_Sum [.s (.ptr p0 q0 o0), .s p1] μ =
 (crc_Table_Add [.s (.ptr p0 q0 o0), .s (.int .u32 4294967295), .s p1] μ).bind fun r1 =>
 asI .u32 r1.1 fun n2 =>
 some (.s (.int .u32 n2), r1.2) := by rw [← G51_79]; kernel_rfl

noncomputable def G33 : FuncId → FunA := fun g => bif Nat.beq g 51 then crc_Table_Sum else fun _ _ => none
theorem G33_51 : G33 51 = crc_Table_Sum := by kernel_rfl
def A33 : Ann := .two (.leaf) (.two (.leaf) (.two (.leaf) (.leaf)))
def R33 : Slots := [(4, .s)]
noncomputable def block_Coder_sum : FunA := denF Tryz.prog G33 Tryz.f33 A33 R33
theorem block_Coder_sum_eq (p0 q0 o0 : Nat) (p1 : SV) (μ : AMem) : block_Coder_sum [.s (.ptr p0 q0 o0), .s p1] μ =
 (μ.cell p0 q0 (o0 + 0)).bind fun x1 =>
 (crc_Table_Sum [.s x1, .s p1] μ).bind fun r2 =>
 asI .u32 r2.1 fun n3 =>
 some (.s (.slice (r2.2.next + 11) 0 0 4), ((r2.2.bump 13).set (r2.2.next + 11) (rowObj [.int .u8 (IntKind.wrap .u8 (Int.fdiv n3 (2 ^ (24 : Nat)))), .int .u8 (IntKind.wrap .u8 (Int.fdiv n3 (2 ^ (16 : Nat)))), .int .u8 (IntKind.wrap .u8 (Int.fdiv n3 (2 ^ (8 : Nat)))), .int .u8 (IntKind.wrap .u8 n3)] 1 5 (some 4)))) := by rw [← G33_51]; kernel_rfl

noncomputable def G19 : FuncId → FunA := fun g => bif Nat.beq g 31 then atomic_Int64_Add else bif Nat.beq g 33 then block_Coder_sum else fun _ _ => none
theorem G19_31 : G19 31 = atomic_Int64_Add := by kernel_rfl
theorem G19_33 : G19 33 = block_Coder_sum := by kernel_rfl
def A19 : Ann := .two (.leaf) (.two (.two (.leaf) (.two (.two (.leaf) (.leaf)) (.leaf))) (.two (.leaf) (.two (.leaf) (.two (.leaf) (.two (.leaf) (.leaf))))))
def R19 : Slots := [(4, .s), (5, .i .i64)]
noncomputable def block_Coder_Seal : FunA := denF Tryz.prog G19 Tryz.f19 A19 R19
theorem block_Coder_Seal_eq (p0 q0 o0 : Nat) (p1 : SV) (μ : AMem) : block_Coder_Seal [.s (.ptr p0 q0 o0), .s p1] μ =
 (lenS (.s p1)).bind fun l1 =>
 bif decide (((l1 : Nat) : Int) > 124) then
 (some (.tuple [.s .nilSlice, .s (.int .i64 4)], μ))
 else
 (if 0 ≤ (124 : Int) ∧ (124 : Int) ≤ (124 : Int) ∧ (124 : Int) ≤ 9223372036854775807 ∧ (1 : Nat) * (124 : Int) ≤ 140737488355328 then
 (copyA 1 ((μ.bump 2).set (μ.next + 0) (rowObj (zerosA [.int .u8 0] (Int.toNat 124)) 1 5 (some (Int.toNat 124)))) (.s (.slice (μ.next + 0) 0 0 (Int.toNat 124))) (.s p1) fun n2 m3 =>
 asI .i64 n2 fun n4 =>
 (atomic_Int64_Add [.s (.ptr p0 q0 (o0 + 1)), .s (.int .i64 1)] m3).bind fun r5 =>
 asI .i64 r5.1 fun n6 =>
 (block_Coder_sum [.s (.ptr p0 q0 o0), .s (.slice (μ.next + 0) 0 0 (Int.toNat 124))] (r5.2.bump 7)).bind fun r7 =>
 asS r7.1 fun x8 =>
 appendA 5 1 1 (r5.2.next + 4) r7.2 (.s (.slice (μ.next + 0) 0 0 (Int.toNat 124))) (.s x8) fun x9 m10 =>
 asS x9 fun x11 =>
 some (.tuple [.s x11, .s (.int .i64 0)], m10)) else none) := by rw [← G19_31, ← G19_33]; kernel_rfl

noncomputable def G9 : FuncId → FunA := fun g => bif Nat.beq g 26 then block_right else bif Nat.beq g 27 then frame_Encode else bif Nat.beq g 19 then block_Coder_Seal else fun _ _ => none
theorem G9_26 : G9 26 = block_right := by kernel_rfl
theorem G9_27 : G9 27 = frame_Encode := by kernel_rfl
theorem G9_19 : G9 19 = block_Coder_Seal := by kernel_rfl
def A9 : Ann := .two (.leaf) (.two (.join [(0, .s), (1, .s)] [] [] (.two (.leaf) (.two (.two (.leaf) (.leaf)) (.two (.leaf) (.two (.two (.leaf) (.leaf)) (.leaf))))) .leaf) (.two (.leaf) (.two (.leaf) (.two (.join [(0, .s), (7, .i .i64), (8, .s)] [] [] (.loop [(7, .i .i64), (8, .s)] [0, 1] [1] (.two (.two (.leaf) (.two (.leaf) (.leaf))) (.join [(0, .s), (1, .s), (7, .i .i64), (8, .s)] [] [] (.two (.leaf) (.leaf)) .leaf))) .leaf) (.two (.leaf) (.two (.leaf) (.leaf)))))))
def R9 : Slots := [(4, .s), (5, .i .i64), (6, .i .i64)]
noncomputable def block_Coder_Pack : FunA := denF Tryz.prog G9 Tryz.f9 A9 R9
noncomputable def block_Coder_Pack_L1_B (os vs : List AV) (μ : AMem) : Option Res := joinK [(7, .i .i64), (8, .s)] vs (envO [0, 1] os) fun e => den Tryz.prog G9 Tryz.f9.ntmps (cL (cL (cL (cR (cR (cR (cR (bodyOf Tryz.f9)))))))) (aL (aL (aL (aR (aR (aR (aR A9))))))) { ret := R9, exits := [(1, [(0, .s), (7, .i .i64), (8, .s)])] } Res e μ fun ex e μ => some (ex, valsOf (Lv.at { ret := R9, exits := [(1, [(0, .s), (7, .i .i64), (8, .s)])] } [(7, .i .i64), (8, .s)] ex) e, μ)
noncomputable def block_Coder_Pack_L1 (os vs : List AV) (μ : AMem) : Option Res := loopA (block_Coder_Pack_L1_B os) vs μ
theorem block_Coder_Pack_L1_B_eq (s0 t0 u0 : Nat) (s1 : SV) (s7 : Int) (s8 : SV) (μ : AMem) : block_Coder_Pack_L1_B [.s (.ptr s0 t0 u0), .s s1] [.s (.int .i64 s7), .s s8] μ =
 (lenS (.s s8)).bind fun l39 =>
 bif decide (((l39 : Nat) : Int) > 124) then
 (cutS 1 (.s s1) 0 (IntKind.wrap .i64 (s7 - 1)) fun x40 =>
 (frame_Encode [x40] μ).bind fun r41 =>
 extrK 0 r41.1 fun t42 =>
 asS t42 fun x43 =>
 extrK 1 r41.1 fun t44 =>
 asI .i64 t44 fun n45 =>
 some (.normal, [.s (.int .i64 (IntKind.wrap .i64 (s7 - 1))), .s x43], r41.2))
 else
 (some (.exit 1, [.s (.ptr s0 t0 u0), .s (.int .i64 s7), .s s8], μ)) := by rw [← G9_27]; kernel_rfl
theorem block_Coder_Pack_L1_eq (os vs : List AV) (μ : AMem) : block_Coder_Pack_L1 os vs μ = (block_Coder_Pack_L1_B os vs μ).bind fun r => match r.1 with | .normal => block_Coder_Pack_L1 os r.2.1 r.2.2 | _ => some r := loopA_eq _ _ _
theorem block_Coder_Pack_eq (p0 q0 o0 : Nat) (p1 : SV) (μ : AMem) : block_Coder_Pack [.s (.ptr p0 q0 o0), .s p1] μ =
 (lenS (.s p1)).bind fun l1 =>
 bif (((l1 : Nat) : Int) == 0) then
 (some (.tuple [.s .nilSlice, .s (.int .i64 0), .s (.int .i64 4)], μ))
 else
 ((block_right [.s p1] μ).bind fun r2 =>
 asB r2.1 fun b3 =>
 bif (!b3) then
 (some (.tuple [.s .nilSlice, .s (.int .i64 0), .s (.int .i64 8)], r2.2))
 else
 ((lenS (.s p1)).bind fun l4 =>
 cutS 1 (.s p1) 0 (if 64 < ((l4 : Nat) : Int) then 64 else ((l4 : Nat) : Int)) fun x5 =>
 (frame_Encode [x5] r2.2).bind fun r6 =>
 extrK 0 r6.1 fun t7 =>
 asS t7 fun x8 =>
 extrK 1 r6.1 fun t9 =>
 asI .i64 t9 fun n10 =>
 seqJ (block_Coder_Pack_L1 [.s (.ptr p0 q0 o0), .s p1] [.s (.int .i64 (if 64 < ((l4 : Nat) : Int) then 64 else ((l4 : Nat) : Int))), .s x8] r6.2)
 (fun _ _ => none)
 (fun vs11 m12 =>
 headK vs11 fun a16 r17 =>
 asS a16 fun x18 =>
 headK r17 fun a19 r20 =>
 asI .i64 a19 fun n21 =>
 headK r20 fun a22 r23 =>
 asI .i64 a22 fun n24 =>
 some (.tuple [.s x18, .s (.int .i64 n21), .s (.int .i64 n24)], m12))
 (fun d15 vs13 m14 =>
 bif Nat.beq 1 d15 then (headK vs13 fun a25 r26 =>
 asS a25 fun x27 =>
 headK r26 fun a28 r29 =>
 asI .i64 a28 fun n30 =>
 headK r29 fun a31 r32 =>
 asS a31 fun x33 =>
 (block_Coder_Seal [.s x27, .s x33] m14).bind fun r34 =>
 extrK 0 r34.1 fun t35 =>
 asS t35 fun x36 =>
 extrK 1 r34.1 fun t37 =>
 asI .i64 t37 fun n38 =>
 some (.tuple [.s x36, .s (.int .i64 n30), .s (.int .i64 n38)], r34.2)) else (none)))) := by rw [← G9_26, ← G9_27, ← G9_19]; kernel_rfl

noncomputable def G41 : FuncId → FunA := fun _ _ _ => none
def A41 : Ann := .two (.leaf) (.two (.two (.leaf) (.join [(0, .s)] [] [] (.loop [(6, .i .i64)] [0, 5] [0] (.two (.leaf) (.two (.two (.leaf) (.leaf)) (.two (.join [(0, .s), (5, .i .i64), (6, .i .i64)] [] [] (.two (.leaf) (.join [(20, .b)] [0, 5, 6] [] (.leaf) (.two (.two (.leaf) (.leaf)) (.leaf)))) .leaf) (.leaf))))) .leaf)) (.two (.two (.leaf) (.two (.two (.leaf) (.leaf)) (.leaf))) (.two (.leaf) (.leaf))))
def R41 : Slots := [(2, .i .i64)]
noncomputable def overdubref05_May : FunA := denF Tryz.prog G41 Tryz.f41 A41 R41
noncomputable def overdubref05_May_L1_B (os vs : List AV) (μ : AMem) : Option Res := joinK [(6, .i .i64)] vs (envO [0, 5] os) fun e => den Tryz.prog G41 Tryz.f41.ntmps (cL (cL (cR (cL (cR (bodyOf Tryz.f41)))))) (aL (aL (aR (aL (aR A41))))) { ret := R41, exits := [(0, [(0, .s)])] } Res e μ fun ex e μ => some (ex, valsOf (Lv.at { ret := R41, exits := [(0, [(0, .s)])] } [(6, .i .i64)] ex) e, μ)
noncomputable def overdubref05_May_L1 (os vs : List AV) (μ : AMem) : Option Res := loopA (overdubref05_May_L1_B os) vs μ
theorem overdubref05_May_L1_B_eq (s0 : SV) (s5 : Int) (s6 : Int) (μ : AMem) : overdubref05_May_L1_B [.s s0, .s (.int .i64 s5)] [.s (.int .i64 s6)] μ =
 bif decide (s6 < s5) then
 (seqJ
 (indS 1 (.s s0) s6 fun p14 =>
 loadAt μ p14 fun v15 =>
 asI .i64 v15 fun n16 =>
 bif !(decide (n16 < (-8388608))) then
 (indS 1 (.s s0) s6 fun p17 =>
 loadAt μ p17 fun v18 =>
 asI .i64 v18 fun n19 =>
 some (.normal, [.s (.bool (decide (n19 > 8388607)))], μ))
 else
 (some (.normal, [.s (.bool true)], μ)))
 (fun vs20 m21 =>
 headK vs20 fun a22 r23 =>
 asB a22 fun b24 =>
 bif b24 then
 (some (.ret, [.s (.int .i64 8)], m21))
 else
 (some (.normal, [.s (.int .i64 (IntKind.wrap .i64 (s6 + 1)))], m21)))
 (fun vs25 m26 =>
 headK vs25 fun a30 r31 =>
 asI .i64 a30 fun n32 =>
 some (.ret, [.s (.int .i64 n32)], m26))
 (fun d29 vs27 m28 =>
 none))
 else
 (some (.exit 0, [.s s0], μ)) := by kernel_rfl
theorem overdubref05_May_L1_eq (os vs : List AV) (μ : AMem) : overdubref05_May_L1 os vs μ = (overdubref05_May_L1_B os vs μ).bind fun r => match r.1 with | .normal => overdubref05_May_L1 os r.2.1 r.2.2 | _ => some r := loopA_eq _ _ _
theorem overdubref05_May_eq (p0 : SV) (μ : AMem) : overdubref05_May [.s p0] μ =
 (lenS (.s p0)).bind fun l1 =>
 seqJ (overdubref05_May_L1 [.s p0, .s (.int .i64 ((l1 : Nat) : Int))] [.s (.int .i64 0)] μ)
 (fun _ _ => none)
 (fun vs2 m3 =>
 headK vs2 fun a7 r8 =>
 asI .i64 a7 fun n9 =>
 some (.s (.int .i64 n9), m3))
 (fun d6 vs4 m5 =>
 bif Nat.beq 0 d6 then (headK vs4 fun a10 r11 =>
 asS a10 fun x12 =>
 (lenS (.s x12)).bind fun l13 =>
 bif decide (((l13 : Nat) : Int) > 64) then
 (some (.s (.int .i64 4), m5))
 else
 (some (.s (.int .i64 0), m5))) else (none)) := by kernel_rfl

noncomputable def G66 : FuncId → FunA := fun _ _ _ => none
def A66 : Ann := .two (.leaf) (.two (.join [(15, .b)] [0, 1, 2] [] (.leaf) (.two (.two (.leaf) (.leaf)) (.leaf))) (.two (.leaf) (.two (.two (.leaf) (.join [(8, .s)] [] [] (.loop [(8, .s), (9, .i .i64)] [1] [0] (.two (.two (.leaf) (.two (.leaf) (.leaf))) (.two (.join [(1, .i .i64), (8, .s), (9, .i .i64)] [] [] (.leaf) .leaf) (.leaf)))) .leaf)) (.two (.leaf) (.leaf)))))
def R66 : Slots := [(6, .s), (7, .b)]
noncomputable def overdubref01_Bits_Put : FunA := denF Tryz.prog G66 Tryz.f66 A66 R66
noncomputable def overdubref01_Bits_Put_L1_B (os vs : List AV) (μ : AMem) : Option Res := joinK [(8, .s), (9, .i .i64)] vs (envO [1] os) fun e => den Tryz.prog G66 Tryz.f66.ntmps (cL (cL (cR (cL (cR (cR (cR (bodyOf Tryz.f66)))))))) (aL (aL (aR (aL (aR (aR (aR A66))))))) { ret := R66, exits := [(0, [(8, .s)])] } Res e μ fun ex e μ => some (ex, valsOf (Lv.at { ret := R66, exits := [(0, [(8, .s)])] } [(8, .s), (9, .i .i64)] ex) e, μ)
noncomputable def overdubref01_Bits_Put_L1 (os vs : List AV) (μ : AMem) : Option Res := loopA (overdubref01_Bits_Put_L1_B os) vs μ
theorem overdubref01_Bits_Put_L1_B_eq (s1 : Int) (s8 : SV) (s9 : Int) (μ : AMem) : overdubref01_Bits_Put_L1_B [.s (.int .i64 s1)] [.s s8, .s (.int .i64 s9)] μ =
 bif decide (s9 ≥ 0) then
 (if (IntKind.wrap .u64 s9) < 0 then none else
 (appendA 5 1 1 (μ.next + 8) ((μ.bump 10).set (μ.next + 7) (rowObj [.int .u8 (IntKind.wrap .u8 (IntKind.wrap .i64 (BitVec.toNat ((BitVec.ofInt (IntKind.bits .i64) (Int.fdiv s1 (2 ^ (min (Int.toNat (IntKind.wrap .u64 s9)) (IntKind.bits .i64))))) &&& (BitVec.ofInt (IntKind.bits .i64) 1)))))] 1 5 (some 1))) (.s s8) (.s (.slice (μ.next + 7) 0 0 1)) fun x34 m35 =>
 asS x34 fun x36 =>
 some (.normal, [.s x36, .s (.int .i64 (IntKind.wrap .i64 (s9 - 1)))], m35)))
 else
 (some (.exit 0, [.s s8], μ)) := by kernel_rfl
theorem overdubref01_Bits_Put_L1_eq (os vs : List AV) (μ : AMem) : overdubref01_Bits_Put_L1 os vs μ = (overdubref01_Bits_Put_L1_B os vs μ).bind fun r => match r.1 with | .normal => overdubref01_Bits_Put_L1 os r.2.1 r.2.2 | _ => some r := loopA_eq _ _ _
theorem overdubref01_Bits_Put_eq (p0 : SV) (p1 : Int) (p2 : Int) (μ : AMem) : overdubref01_Bits_Put [.s p0, .s (.int .i64 p1), .s (.int .i64 p2)] μ =
 seqJ
 (bif !(decide (p2 < 0)) then
 (some (.normal, [.s (.bool (decide (p2 > 62)))], μ))
 else
 (some (.normal, [.s (.bool true)], μ)))
 (fun vs1 m2 =>
 headK vs1 fun a3 r4 =>
 asB a3 fun b5 =>
 bif b5 then
 (some (.tuple [.s p0, .s (.bool false)], m2))
 else
 (appendA 5 1 1 (m2.next + 1) (m2.bump 3) (.s .nilSlice) (.s p0) fun x6 m7 =>
 asS x6 fun x8 =>
 seqJ (overdubref01_Bits_Put_L1 [.s (.int .i64 p1)] [.s x8, .s (.int .i64 (IntKind.wrap .i64 (p2 - 1)))] m7)
 (fun _ _ => none)
 (fun vs9 m10 =>
 headK vs9 fun a14 r15 =>
 asS a14 fun x16 =>
 headK r15 fun a17 r18 =>
 asB a17 fun b19 =>
 some (.tuple [.s x16, .s (.bool b19)], m10))
 (fun d13 vs11 m12 =>
 bif Nat.beq 0 d13 then (headK vs11 fun a20 r21 =>
 asS a20 fun x22 =>
 some (.tuple [.s x22, .s (.bool true)], m12)) else (none))))
 (fun vs23 m24 =>
 headK vs23 fun a28 r29 =>
 asS a28 fun x30 =>
 headK r29 fun a31 r32 =>
 asB a31 fun b33 =>
 some (.tuple [.s x30, .s (.bool b33)], m24))
 (fun d27 vs25 m26 =>
 none) := by kernel_rfl

noncomputable def G67 : FuncId → FunA := fun g => bif Nat.beq g 66 then overdubref01_Bits_Put else fun _ _ => none
theorem G67_66 : G67 66 = overdubref01_Bits_Put := by kernel_rfl
def A67 : Ann := .two (.leaf) (.two (.leaf) (.two (.leaf) (.leaf)))
def R67 : Slots := [(4, .s)]
noncomputable def overdubref05_sample : FunA := denF Tryz.prog G67 Tryz.f67 A67 R67
theorem overdubref05_sample_eq (p0 : SV) (p1 : Int) (μ : AMem) : overdubref05_sample [.s p0, .s (.int .i64 p1)] μ =
 (overdubref01_Bits_Put [.s p0, .s (.int .i64 (IntKind.wrap .i64 (p1 - (-8388608)))), .s (.int .i64 24)] μ).bind fun r1 =>
 extrK 0 r1.1 fun t2 =>
 asS t2 fun x3 =>
 extrK 1 r1.1 fun t4 =>
 asB t4 fun b5 =>
 some (.s x3, r1.2) := by rw [← G67_66]; kernel_rfl

noncomputable def G111 : FuncId → FunA := fun _ _ _ => none
def A111 : Ann := .two (.leaf) (.two (.two (.leaf) (.join [] [] [] (.two (.leaf) (.two (.two (.leaf) (.leaf)) (.two (.leaf) (.two (.two (.leaf) (.leaf)) (.two (.leaf) (.two (.two (.leaf) (.leaf)) (.two (.leaf) (.two (.two (.leaf) (.leaf)) (.leaf))))))))) .leaf)) (.two (.leaf) (.leaf)))
def R111 : Slots := [(2, .s)]
noncomputable def overdubref05_Fixed : FunA := denF Tryz.prog G111 Tryz.f111 A111 R111
theorem overdubref05_Fixed_eq (p0 : Int) (μ : AMem) : overdubref05_Fixed [.s (.int .i64 p0)] μ =
 bif (p0 == 1) then
 (some (.s (.slice (μ.next + 0) 0 0 1), ((μ.bump 2).set (μ.next + 0) (rowObj [.int .i64 1] 1 3 (some 1)))))
 else
 (bif (p0 == 2) then
 (some (.s (.slice (μ.next + 0) 0 0 2), ((μ.bump 2).set (μ.next + 0) (rowObj [.int .i64 2, .int .i64 (-1)] 1 3 (some 2)))))
 else
 (bif (p0 == 3) then
 (some (.s (.slice (μ.next + 0) 0 0 3), ((μ.bump 2).set (μ.next + 0) (rowObj [.int .i64 3, .int .i64 (-3), .int .i64 1] 1 3 (some 3)))))
 else
 (bif (p0 == 4) then
 (some (.s (.slice (μ.next + 0) 0 0 4), ((μ.bump 2).set (μ.next + 0) (rowObj [.int .i64 4, .int .i64 (-6), .int .i64 4, .int .i64 (-1)] 1 3 (some 4)))))
 else
 (some (.s .nilSlice, μ))))) := by kernel_rfl

noncomputable def G83 : FuncId → FunA := fun g => bif Nat.beq g 111 then overdubref05_Fixed else fun _ _ => none
theorem G83_111 : G83 111 = overdubref05_Fixed := by kernel_rfl
def A83 : Ann := .two (.leaf) (.two (.leaf) (.two (.leaf) (.two (.two (.leaf) (.join [(6, .i .i64)] [] [] (.loop [(6, .i .i64), (12, .i .i64)] [0, 5, 11] [0] (.two (.leaf) (.two (.two (.leaf) (.leaf)) (.two (.join [(0, .s), (5, .s), (6, .i .i64), (11, .i .i64), (12, .i .i64)] [] [] (.two (.leaf) (.ord [0, 1, 2, 3, 4, 5, 6, 7, 8, 9, 10, 11, 12, 13, 14, 15])) .leaf) (.leaf))))) .leaf)) (.two (.leaf) (.leaf)))))
def R83 : Slots := [(4, .i .i64)]
noncomputable def overdubref05_told : FunA := denF Tryz.prog G83 Tryz.f83 A83 R83
noncomputable def overdubref05_told_L1_B (os vs : List AV) (μ : AMem) : Option Res := joinK [(6, .i .i64), (12, .i .i64)] vs (envO [0, 5, 11] os) fun e => den Tryz.prog G83 Tryz.f83.ntmps (cL (cL (cR (cL (cR (cR (cR (bodyOf Tryz.f83)))))))) (aL (aL (aR (aL (aR (aR (aR A83))))))) { ret := R83, exits := [(0, [(6, .i .i64)])] } Res e μ fun ex e μ => some (ex, valsOf (Lv.at { ret := R83, exits := [(0, [(6, .i .i64)])] } [(6, .i .i64), (12, .i .i64)] ex) e, μ)
noncomputable def overdubref05_told_L1 (os vs : List AV) (μ : AMem) : Option Res := loopA (overdubref05_told_L1_B os) vs μ
theorem overdubref05_told_L1_B_eq (s0 : SV) (s5 : SV) (s11 : Int) (s6 : Int) (s12 : Int) (μ : AMem) : overdubref05_told_L1_B [.s s0, .s s5, .s (.int .i64 s11)] [.s (.int .i64 s6), .s (.int .i64 s12)] μ =
 bif decide (s12 < s11) then
 (indS 1 (.s s5) s12 fun p15 =>
 loadAt μ p15 fun v16 =>
 asI .i64 v16 fun n17 =>
 (lenS (.s s0)).bind fun l18 =>
 indS 1 (.s s0) (IntKind.wrap .i64 ((IntKind.wrap .i64 (((l18 : Nat) : Int) - 1)) - s12)) fun p19 =>
 loadAt μ p19 fun v20 =>
 asI .i64 v20 fun n21 =>
 some (.normal, [.s (.int .i64 (IntKind.wrap .i64 (s6 + (IntKind.wrap .i64 (n17 * n21))))), .s (.int .i64 (IntKind.wrap .i64 (s12 + 1)))], μ))
 else
 (some (.exit 0, [.s (.int .i64 s6)], μ)) := by kernel_rfl
theorem overdubref05_told_L1_eq (os vs : List AV) (μ : AMem) : overdubref05_told_L1 os vs μ = (overdubref05_told_L1_B os vs μ).bind fun r => match r.1 with | .normal => overdubref05_told_L1 os r.2.1 r.2.2 | _ => some r := loopA_eq _ _ _
theorem overdubref05_told_eq (p0 : SV) (p1 : Int) (μ : AMem) : overdubref05_told [.s p0, .s (.int .i64 p1)] μ =
 (overdubref05_Fixed [.s (.int .i64 p1)] μ).bind fun r1 =>
 asS r1.1 fun x2 =>
 (lenS (.s x2)).bind fun l3 =>
 seqJ (overdubref05_told_L1 [.s p0, .s x2, .s (.int .i64 ((l3 : Nat) : Int))] [.s (.int .i64 0), .s (.int .i64 0)] r1.2)
 (fun _ _ => none)
 (fun vs4 m5 =>
 headK vs4 fun a9 r10 =>
 asI .i64 a9 fun n11 =>
 some (.s (.int .i64 n11), m5))
 (fun d8 vs6 m7 =>
 bif Nat.beq 0 d8 then (headK vs6 fun a12 r13 =>
 asI .i64 a12 fun n14 =>
 some (.s (.int .i64 n14), m7)) else (none)) := by rw [← G83_111]; kernel_rfl

noncomputable def G68 : FuncId → FunA := fun g => bif Nat.beq g 41 then overdubref05_May else bif Nat.beq g 83 then overdubref05_told else fun _ _ => none
theorem G68_41 : G68 41 = overdubref05_May := by kernel_rfl
theorem G68_83 : G68 83 = overdubref05_told := by kernel_rfl
def A68 : Ann := .two (.leaf) (.two (.join [(20, .b)] [0, 1] [] (.leaf) (.two (.two (.leaf) (.leaf)) (.leaf))) (.two (.two (.leaf) (.two (.leaf) (.two (.two (.leaf) (.leaf)) (.leaf)))) (.two (.leaf) (.two (.two (.leaf) (.join [(7, .s)] [] [] (.loop [(7, .s), (8, .i .i64)] [0, 1] [0] (.two (.two (.leaf) (.two (.leaf) (.leaf))) (.two (.join [(0, .s), (1, .i .i64), (7, .s), (8, .i .i64)] [] [] (.ord [0, 1, 2, 3, 4, 5, 6, 7, 8, 9, 10, 11, 12, 13]) .leaf) (.leaf)))) .leaf)) (.two (.leaf) (.leaf))))))
def R68 : Slots := [(4, .s), (5, .i .i64)]
noncomputable def overdubref05_Residual : FunA := denF Tryz.prog G68 Tryz.f68 A68 R68
noncomputable def overdubref05_Residual_L1_B (os vs : List AV) (μ : AMem) : Option Res := joinK [(7, .s), (8, .i .i64)] vs (envO [0, 1] os) fun e => den Tryz.prog G68 Tryz.f68.ntmps (cL (cL (cR (cL (cR (cR (cR (cR (bodyOf Tryz.f68))))))))) (aL (aL (aR (aL (aR (aR (aR (aR A68)))))))) { ret := R68, exits := [(0, [(7, .s)])] } Res e μ fun ex e μ => some (ex, valsOf (Lv.at { ret := R68, exits := [(0, [(7, .s)])] } [(7, .s), (8, .i .i64)] ex) e, μ)
noncomputable def overdubref05_Residual_L1 (os vs : List AV) (μ : AMem) : Option Res := loopA (overdubref05_Residual_L1_B os) vs μ
theorem overdubref05_Residual_L1_B_eq (s0 : SV) (s1 : Int) (s7 : SV) (s8 : Int) (μ : AMem) : overdubref05_Residual_L1_B [.s s0, .s (.int .i64 s1)] [.s s7, .s (.int .i64 s8)] μ =
 (lenS (.s s0)).bind fun l34 =>
 bif decide (s8 < ((l34 : Nat) : Int)) then
 (indS 1 (.s s0) s8 fun p35 =>
 loadAt (μ.bump 14) p35 fun v36 =>
 asI .i64 v36 fun n37 =>
 cutS 1 (.s s0) 0 s8 fun x38 =>
 (overdubref05_told [x38, .s (.int .i64 s1)] (μ.bump 14)).bind fun r39 =>
 asI .i64 r39.1 fun n40 =>
 checkA ((loadAt r39.2 p35 some) = some (.s (.int .i64 n37)))
 (checkA (r39.2.obj (μ.next + 11) = none)
 (appendA 3 1 8 (μ.next + 12) (r39.2.set (μ.next + 11) (rowObj [.int .i64 (IntKind.wrap .i64 (n37 - n40))] 1 3 (some 1))) (.s s7) (.s (.slice (μ.next + 11) 0 0 1)) fun x41 m42 =>
 asS x41 fun x43 =>
 some (.normal, [.s x43, .s (.int .i64 (IntKind.wrap .i64 (s8 + 1)))], m42))))
 else
 (some (.exit 0, [.s s7], μ)) := by rw [← G68_83]; kernel_rfl
theorem overdubref05_Residual_L1_eq (os vs : List AV) (μ : AMem) : overdubref05_Residual_L1 os vs μ = (overdubref05_Residual_L1_B os vs μ).bind fun r => match r.1 with | .normal => overdubref05_Residual_L1 os r.2.1 r.2.2 | _ => some r := loopA_eq _ _ _
theorem overdubref05_Residual_eq (p0 : SV) (p1 : Int) (μ : AMem) : overdubref05_Residual [.s p0, .s (.int .i64 p1)] μ =
 seqJ
 (bif !(decide (p1 < 0)) then
 (bif !(decide (p1 > 4)) then
 ((lenS (.s p0)).bind fun l1 =>
 some (.normal, [.s (.bool (decide (p1 > ((l1 : Nat) : Int))))], μ))
 else
 (some (.normal, [.s (.bool true)], μ)))
 else
 (some (.normal, [.s (.bool true)], μ)))
 (fun vs2 m3 =>
 headK vs2 fun a4 r5 =>
 asB a4 fun b6 =>
 bif b6 then
 (some (.tuple [.s .nilSlice, .s (.int .i64 1)], m3))
 else
 ((overdubref05_May [.s p0] m3).bind fun r7 =>
 asI .i64 r7.1 fun n8 =>
 bif (n8 != 0) then
 (some (.tuple [.s .nilSlice, .s (.int .i64 n8)], r7.2))
 else
 (seqJ (overdubref05_Residual_L1 [.s p0, .s (.int .i64 p1)] [.s .nilSlice, .s (.int .i64 p1)] r7.2)
 (fun _ _ => none)
 (fun vs9 m10 =>
 headK vs9 fun a14 r15 =>
 asS a14 fun x16 =>
 headK r15 fun a17 r18 =>
 asI .i64 a17 fun n19 =>
 some (.tuple [.s x16, .s (.int .i64 n19)], m10))
 (fun d13 vs11 m12 =>
 bif Nat.beq 0 d13 then (headK vs11 fun a20 r21 =>
 asS a20 fun x22 =>
 some (.tuple [.s x22, .s (.int .i64 0)], m12)) else (none)))))
 (fun vs23 m24 =>
 headK vs23 fun a28 r29 =>
 asS a28 fun x30 =>
 headK r29 fun a31 r32 =>
 asI .i64 a31 fun n33 =>
 some (.tuple [.s x30, .s (.int .i64 n33)], m24))
 (fun d27 vs25 m26 =>
 none) := by rw [← G68_41]; kernel_rfl

noncomputable def G94 : FuncId → FunA := fun _ _ _ => none
def A94 : Ann := .two (.leaf) (.two (.join [(8, .b)] [0] [] (.leaf) (.two (.two (.leaf) (.leaf)) (.leaf))) (.two (.two (.leaf) (.two (.two (.leaf) (.leaf)) (.leaf))) (.two (.leaf) (.leaf))))
def R94 : Slots := [(2, .i .i64)]
noncomputable def overdubref01_Zig : FunA := denF Tryz.prog G94 Tryz.f94 A94 R94
theorem overdubref01_Zig_eq (p0 : Int) (μ : AMem) : overdubref01_Zig [.s (.int .i64 p0)] μ =
 seqJ
 (bif !(decide (p0 < (-1099511627776))) then
 (some (.normal, [.s (.bool (decide (p0 ≥ 1099511627776)))], μ))
 else
 (some (.normal, [.s (.bool true)], μ)))
 (fun vs1 m2 =>
 headK vs1 fun a3 r4 =>
 asB a3 fun b5 =>
 bif b5 then
 (some (.s (.int .i64 0), m2))
 else
 (bif decide (p0 < 0) then
 (some (.s (.int .i64 (IntKind.wrap .i64 ((IntKind.wrap .i64 ((-2) * p0)) - 1))), m2))
 else
 (some (.s (.int .i64 (IntKind.wrap .i64 (2 * p0))), m2))))
 (fun vs6 m7 =>
 headK vs6 fun a11 r12 =>
 asI .i64 a11 fun n13 =>
 some (.s (.int .i64 n13), m7))
 (fun d10 vs8 m9 =>
 none) := by kernel_rfl

noncomputable def G109 : FuncId → FunA := fun _ _ _ => none
def A109 : Ann := .two (.leaf) (.two (.leaf) (.leaf))
def R109 : Slots := [(4, .b)]
noncomputable def overdubref01_may : FunA := denF Tryz.prog G109 Tryz.f109 A109 R109
theorem overdubref01_may_eq (p0 : Int) (p1 : Int) (μ : AMem) : overdubref01_may [.s (.int .i64 p0), .s (.int .i64 p1)] μ =
 bif decide (p0 ≥ 0) then
 (bif decide (p0 < 4294967296) then
 (bif decide (p1 ≥ 0) then
 (some (.s (.bool (decide (p1 ≤ 24))), μ))
 else
 (some (.s (.bool false), μ)))
 else
 (some (.s (.bool false), μ)))
 else
 (some (.s (.bool false), μ)) := by kernel_rfl

noncomputable def G118 : FuncId → FunA := fun g => bif Nat.beq g 109 then overdubref01_may else fun _ _ => none
theorem G118_109 : G118 109 = overdubref01_may := by kernel_rfl
def A118 : Ann := .two (.leaf) (.two (.two (.leaf) (.two (.two (.leaf) (.leaf)) (.leaf))) (.two (.two (.leaf) (.two (.two (.leaf) (.leaf)) (.leaf))) (.two (.leaf) (.leaf))))
def R118 : Slots := [(4, .i .i64)]
noncomputable def overdubref01_Size : FunA := denF Tryz.prog G118 Tryz.f118 A118 R118
theorem overdubref01_Size_eq (p0 : Int) (p1 : Int) (μ : AMem) : overdubref01_Size [.s (.int .i64 p0), .s (.int .i64 p1)] μ =
 (overdubref01_may [.s (.int .i64 p0), .s (.int .i64 p1)] μ).bind fun r1 =>
 asB r1.1 fun b2 =>
 bif (!b2) then
 (some (.s (.int .i64 0), r1.2))
 else
 (if (IntKind.wrap .u64 p1) < 0 then none else
 (bif decide ((Int.fdiv p0 (2 ^ (min (Int.toNat (IntKind.wrap .u64 p1)) (IntKind.bits .i64)))) < 24) then
 (if (IntKind.wrap .u64 p1) < 0 then none else
 (some (.s (.int .i64 (IntKind.wrap .i64 ((IntKind.wrap .i64 ((Int.fdiv p0 (2 ^ (min (Int.toNat (IntKind.wrap .u64 p1)) (IntKind.bits .i64)))) + 1)) + p1))), r1.2)))
 else
 (some (.s (.int .i64 56), r1.2)))) := by rw [← G118_109]; kernel_rfl

noncomputable def G95 : FuncId → FunA := fun g => bif Nat.beq g 109 then overdubref01_may else bif Nat.beq g 118 then overdubref01_Size else fun _ _ => none
theorem G95_109 : G95 109 = overdubref01_may := by kernel_rfl
theorem G95_118 : G95 118 = overdubref01_Size := by kernel_rfl
def A95 : Ann := .two (.leaf) (.two (.two (.leaf) (.join [(0, .s)] [] [] (.loop [(12, .i .i64)] [0, 11] [0] (.two (.leaf) (.two (.two (.leaf) (.leaf)) (.two (.join [(0, .s), (11, .i .i64), (12, .i .i64)] [] [] (.two (.leaf) (.two (.leaf) (.two (.two (.leaf) (.leaf)) (.leaf)))) .leaf) (.leaf))))) .leaf)) (.two (.leaf) (.two (.two (.leaf) (.join [(5, .i .i64), (6, .i .i64)] [] [] (.loop [(5, .i .i64), (6, .i .i64), (7, .i .i64)] [0] [2] (.two (.two (.leaf) (.two (.leaf) (.leaf))) (.join [(5, .i .i64), (6, .i .i64)] [0, 7] [] (.join [(0, .s), (5, .i .i64), (6, .i .i64), (7, .i .i64)] [] [] (.two (.leaf) (.two (.two (.leaf) (.join [(0, .s), (5, .i .i64), (6, .i .i64), (7, .i .i64), (8, .i .i64)] [] [] (.loop [(8, .i .i64), (28, .i .i64)] [0, 5, 6, 7, 27] [4] (.two (.leaf) (.two (.two (.leaf) (.leaf)) (.two (.join [(0, .s), (5, .i .i64), (6, .i .i64), (7, .i .i64), (8, .i .i64), (27, .i .i64), (28, .i .i64)] [] [] (.two (.leaf) (.leaf)) .leaf) (.leaf))))) .leaf)) (.join [(46, .b)] [0, 5, 6, 7, 8] [] (.leaf) (.two (.leaf) (.leaf))))) .leaf) (.leaf)))) .leaf)) (.two (.leaf) (.leaf)))))
def R95 : Slots := [(2, .i .i64), (3, .i .i64)]
noncomputable def overdubref01_Best : FunA := denF Tryz.prog G95 Tryz.f95 A95 R95
noncomputable def overdubref01_Best_L3_B (os vs : List AV) (μ : AMem) : Option Res := joinK [(8, .i .i64), (28, .i .i64)] vs (envO [0, 5, 6, 7, 27] os) fun e => den Tryz.prog G95 Tryz.f95.ntmps (cL (cL (cR (cL (cR (cL (cL (cR (cL (cL (cR (cL (cR (cR (cR (bodyOf Tryz.f95)))))))))))))))) (aL (aL (aR (aL (aR (aL (aL (aR (aL (aL (aR (aL (aR (aR (aR A95))))))))))))))) { ret := R95, exits := [(4, [(0, .s), (5, .i .i64), (6, .i .i64), (7, .i .i64), (8, .i .i64)]), (3, [(0, .s), (5, .i .i64), (6, .i .i64), (7, .i .i64)]), (2, [(5, .i .i64), (6, .i .i64)])] } Res e μ fun ex e μ => some (ex, valsOf (Lv.at { ret := R95, exits := [(4, [(0, .s), (5, .i .i64), (6, .i .i64), (7, .i .i64), (8, .i .i64)]), (3, [(0, .s), (5, .i .i64), (6, .i .i64), (7, .i .i64)]), (2, [(5, .i .i64), (6, .i .i64)])] } [(8, .i .i64), (28, .i .i64)] ex) e, μ)
noncomputable def overdubref01_Best_L3 (os vs : List AV) (μ : AMem) : Option Res := loopA (overdubref01_Best_L3_B os) vs μ
noncomputable def overdubref01_Best_L2_B (os vs : List AV) (μ : AMem) : Option Res := joinK [(5, .i .i64), (6, .i .i64), (7, .i .i64)] vs (envO [0] os) fun e => den Tryz.prog G95 Tryz.f95.ntmps (cL (cL (cR (cL (cR (cR (cR (bodyOf Tryz.f95)))))))) (aL (aL (aR (aL (aR (aR (aR A95))))))) { ret := R95, exits := [(2, [(5, .i .i64), (6, .i .i64)])] } Res e μ fun ex e μ => some (ex, valsOf (Lv.at { ret := R95, exits := [(2, [(5, .i .i64), (6, .i .i64)])] } [(5, .i .i64), (6, .i .i64), (7, .i .i64)] ex) e, μ)
noncomputable def overdubref01_Best_L2 (os vs : List AV) (μ : AMem) : Option Res := loopA (overdubref01_Best_L2_B os) vs μ
noncomputable def overdubref01_Best_L1_B (os vs : List AV) (μ : AMem) : Option Res := joinK [(12, .i .i64)] vs (envO [0, 11] os) fun e => den Tryz.prog G95 Tryz.f95.ntmps (cL (cL (cR (cL (cR (bodyOf Tryz.f95)))))) (aL (aL (aR (aL (aR A95))))) { ret := R95, exits := [(0, [(0, .s)])] } Res e μ fun ex e μ => some (ex, valsOf (Lv.at { ret := R95, exits := [(0, [(0, .s)])] } [(12, .i .i64)] ex) e, μ)
noncomputable def overdubref01_Best_L1 (os vs : List AV) (μ : AMem) : Option Res := loopA (overdubref01_Best_L1_B os) vs μ
theorem overdubref01_Best_L3_B_eq (s0 : SV) (s5 : Int) (s6 : Int) (s7 : Int) (s27 : Int) (s8 : Int) (s28 : Int) (μ : AMem) : overdubref01_Best_L3_B [.s s0, .s (.int .i64 s5), .s (.int .i64 s6), .s (.int .i64 s7), .s (.int .i64 s27)] [.s (.int .i64 s8), .s (.int .i64 s28)] μ =
 bif decide (s28 < s27) then
 (indS 1 (.s s0) s28 fun p100 =>
 loadAt μ p100 fun v101 =>
 asI .i64 v101 fun n102 =>
 (overdubref01_Size [.s (.int .i64 n102), .s (.int .i64 s7)] μ).bind fun r103 =>
 asI .i64 r103.1 fun n104 =>
 some (.normal, [.s (.int .i64 (IntKind.wrap .i64 (s8 + n104))), .s (.int .i64 (IntKind.wrap .i64 (s28 + 1)))], r103.2))
 else
 (some (.exit 4, [.s s0, .s (.int .i64 s5), .s (.int .i64 s6), .s (.int .i64 s7), .s (.int .i64 s8)], μ)) := by rw [← G95_118]; kernel_rfl
theorem overdubref01_Best_L3_eq (os vs : List AV) (μ : AMem) : overdubref01_Best_L3 os vs μ = (overdubref01_Best_L3_B os vs μ).bind fun r => match r.1 with | .normal => overdubref01_Best_L3 os r.2.1 r.2.2 | _ => some r := loopA_eq _ _ _
theorem overdubref01_Best_L2_B_eq (s0 : SV) (s5 : Int) (s6 : Int) (s7 : Int) (μ : AMem) : overdubref01_Best_L2_B [.s s0] [.s (.int .i64 s5), .s (.int .i64 s6), .s (.int .i64 s7)] μ =
 bif decide (s7 ≤ 24) then
 (seqJ
 ((lenS (.s s0)).bind fun l38 =>
 seqJ (overdubref01_Best_L3 [.s s0, .s (.int .i64 s5), .s (.int .i64 s6), .s (.int .i64 s7), .s (.int .i64 ((l38 : Nat) : Int))] [.s (.int .i64 0), .s (.int .i64 0)] μ)
 (fun _ _ => none)
 (fun vs39 m40 =>
 headK vs39 fun a44 r45 =>
 asI .i64 a44 fun n46 =>
 headK r45 fun a47 r48 =>
 asI .i64 a47 fun n49 =>
 some (.ret, [.s (.int .i64 n46), .s (.int .i64 n49)], m40))
 (fun d43 vs41 m42 =>
 bif Nat.beq 4 d43 then (headK vs41 fun a50 r51 =>
 asS a50 fun x52 =>
 headK r51 fun a53 r54 =>
 asI .i64 a53 fun n55 =>
 headK r54 fun a56 r57 =>
 asI .i64 a56 fun n58 =>
 headK r57 fun a59 r60 =>
 asI .i64 a59 fun n61 =>
 headK r60 fun a62 r63 =>
 asI .i64 a62 fun n64 =>
 seqJ
 (bif !(n61 == 0) then
 (some (.normal, [.s (.bool (decide (n64 < n58)))], m42))
 else
 (some (.normal, [.s (.bool true)], m42)))
 (fun vs65 m66 =>
 headK vs65 fun a67 r68 =>
 asB a67 fun b69 =>
 bif b69 then
 (some (.normal, [.s (.int .i64 n61), .s (.int .i64 n64)], m66))
 else
 (some (.normal, [.s (.int .i64 n55), .s (.int .i64 n58)], m66)))
 (fun vs70 m71 =>
 headK vs70 fun a75 r76 =>
 asI .i64 a75 fun n77 =>
 headK r76 fun a78 r79 =>
 asI .i64 a78 fun n80 =>
 some (.ret, [.s (.int .i64 n77), .s (.int .i64 n80)], m71))
 (fun d74 vs72 m73 =>
 none)) else (none)))
 (fun vs81 m82 =>
 headK vs81 fun a83 r84 =>
 asI .i64 a83 fun n85 =>
 headK r84 fun a86 r87 =>
 asI .i64 a86 fun n88 =>
 some (.normal, [.s (.int .i64 n85), .s (.int .i64 n88), .s (.int .i64 (IntKind.wrap .i64 (s7 + 1)))], m82))
 (fun vs89 m90 =>
 headK vs89 fun a94 r95 =>
 asI .i64 a94 fun n96 =>
 headK r95 fun a97 r98 =>
 asI .i64 a97 fun n99 =>
 some (.ret, [.s (.int .i64 n96), .s (.int .i64 n99)], m90))
 (fun d93 vs91 m92 =>
 none))
 else
 (some (.exit 2, [.s (.int .i64 s5), .s (.int .i64 s6)], μ)) := by kernel_rfl
theorem overdubref01_Best_L2_eq (os vs : List AV) (μ : AMem) : overdubref01_Best_L2 os vs μ = (overdubref01_Best_L2_B os vs μ).bind fun r => match r.1 with | .normal => overdubref01_Best_L2 os r.2.1 r.2.2 | _ => some r := loopA_eq _ _ _
theorem overdubref01_Best_L1_B_eq (s0 : SV) (s11 : Int) (s12 : Int) (μ : AMem) : overdubref01_Best_L1_B [.s s0, .s (.int .i64 s11)] [.s (.int .i64 s12)] μ =
 bif decide (s12 < s11) then
 (indS 1 (.s s0) s12 fun p33 =>
 loadAt μ p33 fun v34 =>
 asI .i64 v34 fun n35 =>
 (overdubref01_may [.s (.int .i64 n35), .s (.int .i64 0)] μ).bind fun r36 =>
 asB r36.1 fun b37 =>
 bif (!b37) then
 (some (.ret, [.s (.int .i64 0), .s (.int .i64 0)], r36.2))
 else
 (some (.normal, [.s (.int .i64 (IntKind.wrap .i64 (s12 + 1)))], r36.2)))
 else
 (some (.exit 0, [.s s0], μ)) := by rw [← G95_109]; kernel_rfl
theorem overdubref01_Best_L1_eq (os vs : List AV) (μ : AMem) : overdubref01_Best_L1 os vs μ = (overdubref01_Best_L1_B os vs μ).bind fun r => match r.1 with | .normal => overdubref01_Best_L1 os r.2.1 r.2.2 | _ => some r := loopA_eq _ _ _
theorem overdubref01_Best_eq (p0 : SV) (μ : AMem) : overdubref01_Best [.s p0] μ =
 (lenS (.s p0)).bind fun l1 =>
 seqJ (overdubref01_Best_L1 [.s p0, .s (.int .i64 ((l1 : Nat) : Int))] [.s (.int .i64 0)] μ)
 (fun _ _ => none)
 (fun vs2 m3 =>
 headK vs2 fun a7 r8 =>
 asI .i64 a7 fun n9 =>
 headK r8 fun a10 r11 =>
 asI .i64 a10 fun n12 =>
 some (.tuple [.s (.int .i64 n9), .s (.int .i64 n12)], m3))
 (fun d6 vs4 m5 =>
 bif Nat.beq 0 d6 then (headK vs4 fun a13 r14 =>
 asS a13 fun x15 =>
 seqJ (overdubref01_Best_L2 [.s x15] [.s (.int .i64 0), .s (.int .i64 0), .s (.int .i64 0)] m5)
 (fun _ _ => none)
 (fun vs16 m17 =>
 headK vs16 fun a21 r22 =>
 asI .i64 a21 fun n23 =>
 headK r22 fun a24 r25 =>
 asI .i64 a24 fun n26 =>
 some (.tuple [.s (.int .i64 n23), .s (.int .i64 n26)], m17))
 (fun d20 vs18 m19 =>
 bif Nat.beq 2 d20 then (headK vs18 fun a27 r28 =>
 asI .i64 a27 fun n29 =>
 headK r28 fun a30 r31 =>
 asI .i64 a30 fun n32 =>
 some (.tuple [.s (.int .i64 n29), .s (.int .i64 n32)], m19)) else (none))) else (none)) := by kernel_rfl

noncomputable def G119 : FuncId → FunA := fun _ _ _ => none
def A119 : Ann := .two (.leaf) (.two (.join [(13, .b)] [0, 1] [] (.leaf) (.two (.two (.leaf) (.leaf)) (.leaf))) (.two (.leaf) (.two (.two (.leaf) (.join [(6, .s)] [] [] (.loop [(6, .s), (7, .i .i64)] [1] [0] (.two (.two (.leaf) (.two (.leaf) (.leaf))) (.two (.join [(1, .i .i64), (6, .s), (7, .i .i64)] [] [] (.leaf) .leaf) (.leaf)))) .leaf)) (.two (.leaf) (.leaf)))))
def R119 : Slots := [(4, .s), (5, .b)]
noncomputable def overdubref01_Bits_Ones : FunA := denF Tryz.prog G119 Tryz.f119 A119 R119
noncomputable def overdubref01_Bits_Ones_L1_B (os vs : List AV) (μ : AMem) : Option Res := joinK [(6, .s), (7, .i .i64)] vs (envO [1] os) fun e => den Tryz.prog G119 Tryz.f119.ntmps (cL (cL (cR (cL (cR (cR (cR (bodyOf Tryz.f119)))))))) (aL (aL (aR (aL (aR (aR (aR A119))))))) { ret := R119, exits := [(0, [(6, .s)])] } Res e μ fun ex e μ => some (ex, valsOf (Lv.at { ret := R119, exits := [(0, [(6, .s)])] } [(6, .s), (7, .i .i64)] ex) e, μ)
noncomputable def overdubref01_Bits_Ones_L1 (os vs : List AV) (μ : AMem) : Option Res := loopA (overdubref01_Bits_Ones_L1_B os) vs μ
theorem overdubref01_Bits_Ones_L1_B_eq (s1 : Int) (s6 : SV) (s7 : Int) (μ : AMem) : overdubref01_Bits_Ones_L1_B [.s (.int .i64 s1)] [.s s6, .s (.int .i64 s7)] μ =
 bif decide (s7 < s1) then
 (appendA 5 1 1 (μ.next + 2) ((μ.bump 4).set (μ.next + 1) (rowObj [.int .u8 1] 1 5 (some 1))) (.s s6) (.s (.slice (μ.next + 1) 0 0 1)) fun x37 m38 =>
 asS x37 fun x39 =>
 some (.normal, [.s x39, .s (.int .i64 (IntKind.wrap .i64 (s7 + 1)))], m38))
 else
 (some (.exit 0, [.s s6], μ)) := by kernel_rfl
theorem overdubref01_Bits_Ones_L1_eq (os vs : List AV) (μ : AMem) : overdubref01_Bits_Ones_L1 os vs μ = (overdubref01_Bits_Ones_L1_B os vs μ).bind fun r => match r.1 with | .normal => overdubref01_Bits_Ones_L1 os r.2.1 r.2.2 | _ => some r := loopA_eq _ _ _
theorem overdubref01_Bits_Ones_eq (p0 : SV) (p1 : Int) (μ : AMem) : overdubref01_Bits_Ones [.s p0, .s (.int .i64 p1)] μ =
 seqJ
 (bif !(decide (p1 < 0)) then
 (some (.normal, [.s (.bool (decide (p1 > 1024)))], μ))
 else
 (some (.normal, [.s (.bool true)], μ)))
 (fun vs1 m2 =>
 headK vs1 fun a3 r4 =>
 asB a3 fun b5 =>
 bif b5 then
 (some (.tuple [.s p0, .s (.bool false)], m2))
 else
 (appendA 5 1 1 (m2.next + 1) (m2.bump 3) (.s .nilSlice) (.s p0) fun x6 m7 =>
 asS x6 fun x8 =>
 seqJ (overdubref01_Bits_Ones_L1 [.s (.int .i64 p1)] [.s x8, .s (.int .i64 0)] m7)
 (fun _ _ => none)
 (fun vs9 m10 =>
 headK vs9 fun a14 r15 =>
 asS a14 fun x16 =>
 headK r15 fun a17 r18 =>
 asB a17 fun b19 =>
 some (.tuple [.s x16, .s (.bool b19)], m10))
 (fun d13 vs11 m12 =>
 bif Nat.beq 0 d13 then (headK vs11 fun a20 r21 =>
 asS a20 fun x22 =>
 appendA 5 1 1 (m12.next + 2) ((m12.bump 5).set (m12.next + 1) (rowObj [.int .u8 0] 1 5 (some 1))) (.s x22) (.s (.slice (m12.next + 1) 0 0 1)) fun x23 m24 =>
 asS x23 fun x25 =>
 some (.tuple [.s x25, .s (.bool true)], m24)) else (none))))
 (fun vs26 m27 =>
 headK vs26 fun a31 r32 =>
 asS a31 fun x33 =>
 headK r32 fun a34 r35 =>
 asB a34 fun b36 =>
 some (.tuple [.s x33, .s (.bool b36)], m27))
 (fun d30 vs28 m29 =>
 none) := by kernel_rfl

noncomputable def G96 : FuncId → FunA := fun g => bif Nat.beq g 109 then overdubref01_may else bif Nat.beq g 119 then overdubref01_Bits_Ones else bif Nat.beq g 66 then overdubref01_Bits_Put else fun _ _ => none
theorem G96_109 : G96 109 = overdubref01_may := by kernel_rfl
theorem G96_119 : G96 119 = overdubref01_Bits_Ones := by kernel_rfl
theorem G96_66 : G96 66 = overdubref01_Bits_Put := by kernel_rfl
def A96 : Ann := .two (.leaf) (.two (.two (.leaf) (.two (.two (.leaf) (.leaf)) (.leaf))) (.two (.leaf) (.two (.two (.leaf) (.two (.two (.leaf) (.two (.leaf) (.leaf))) (.leaf))) (.two (.leaf) (.two (.leaf) (.leaf))))))
def R96 : Slots := [(6, .s), (7, .b)]
noncomputable def overdubref01_Bits_Rice : FunA := denF Tryz.prog G96 Tryz.f96 A96 R96
theorem overdubref01_Bits_Rice_eq (p0 : SV) (p1 : Int) (p2 : Int) (μ : AMem) : overdubref01_Bits_Rice [.s p0, .s (.int .i64 p1), .s (.int .i64 p2)] μ =
 (overdubref01_may [.s (.int .i64 p1), .s (.int .i64 p2)] μ).bind fun r1 =>
 asB r1.1 fun b2 =>
 bif (!b2) then
 (some (.tuple [.s p0, .s (.bool false)], r1.2))
 else
 (if (IntKind.wrap .u64 p2) < 0 then none else
 (bif decide ((Int.fdiv p1 (2 ^ (min (Int.toNat (IntKind.wrap .u64 p2)) (IntKind.bits .i64)))) < 24) then
 ((overdubref01_Bits_Ones [.s p0, .s (.int .i64 (Int.fdiv p1 (2 ^ (min (Int.toNat (IntKind.wrap .u64 p2)) (IntKind.bits .i64)))))] r1.2).bind fun r3 =>
 extrK 0 r3.1 fun t4 =>
 asS t4 fun x5 =>
 extrK 1 r3.1 fun t6 =>
 asB t6 fun b7 =>
 (overdubref01_Bits_Put [.s x5, .s (.int .i64 p1), .s (.int .i64 p2)] r3.2).bind fun r8 =>
 extrK 0 r8.1 fun t9 =>
 asS t9 fun x10 =>
 extrK 1 r8.1 fun t11 =>
 asB t11 fun b12 =>
 some (.tuple [.s x10, .s (.bool b12)], r8.2))
 else
 ((overdubref01_Bits_Put [.s p0, .s (.int .i64 16777215), .s (.int .i64 24)] r1.2).bind fun r13 =>
 extrK 0 r13.1 fun t14 =>
 asS t14 fun x15 =>
 extrK 1 r13.1 fun t16 =>
 asB t16 fun b17 =>
 (overdubref01_Bits_Put [.s x15, .s (.int .i64 p1), .s (.int .i64 32)] r13.2).bind fun r18 =>
 extrK 0 r18.1 fun t19 =>
 asS t19 fun x20 =>
 extrK 1 r18.1 fun t21 =>
 asB t21 fun b22 =>
 some (.tuple [.s x20, .s (.bool b22)], r18.2)))) := by rw [← G96_109, ← G96_119, ← G96_66]; kernel_rfl

noncomputable def G69 : FuncId → FunA := fun g => bif Nat.beq g 94 then overdubref01_Zig else bif Nat.beq g 95 then overdubref01_Best else bif Nat.beq g 66 then overdubref01_Bits_Put else bif Nat.beq g 96 then overdubref01_Bits_Rice else fun _ _ => none
theorem G69_94 : G69 94 = overdubref01_Zig := by kernel_rfl
theorem G69_95 : G69 95 = overdubref01_Best := by kernel_rfl
theorem G69_66 : G69 66 = overdubref01_Bits_Put := by kernel_rfl
theorem G69_96 : G69 96 = overdubref01_Bits_Rice := by kernel_rfl
def A69 : Ann := .two (.leaf) (.two (.leaf) (.two (.two (.leaf) (.join [(0, .s), (6, .s)] [] [] (.loop [(6, .s), (14, .i .i64)] [0, 1, 13] [0] (.two (.leaf) (.two (.two (.leaf) (.leaf)) (.two (.join [(0, .s), (1, .s), (6, .s), (13, .i .i64), (14, .i .i64)] [] [] (.two (.leaf) (.two (.leaf) (.two (.two (.leaf) (.two (.two (.leaf) (.leaf)) (.leaf))) (.leaf)))) .leaf) (.leaf))))) .leaf)) (.two (.leaf) (.two (.leaf) (.two (.two (.leaf) (.join [(0, .s)] [] [] (.loop [(0, .s), (43, .i .i64)] [6, 9, 42] [2] (.two (.leaf) (.two (.two (.leaf) (.leaf)) (.two (.join [(0, .s), (6, .s), (9, .i .i64), (42, .i .i64), (43, .i .i64)] [] [] (.two (.leaf) (.leaf)) .leaf) (.leaf))))) .leaf)) (.two (.leaf) (.leaf)))))))
def R69 : Slots := [(4, .s), (5, .b)]
noncomputable def overdubref05_residuals : FunA := denF Tryz.prog G69 Tryz.f69 A69 R69
noncomputable def overdubref05_residuals_L2_B (os vs : List AV) (μ : AMem) : Option Res := joinK [(0, .s), (43, .i .i64)] vs (envO [6, 9, 42] os) fun e => den Tryz.prog G69 Tryz.f69.ntmps (cL (cL (cR (cL (cR (cR (cR (cR (cR (bodyOf Tryz.f69)))))))))) (aL (aL (aR (aL (aR (aR (aR (aR (aR A69))))))))) { ret := R69, exits := [(2, [(0, .s)])] } Res e μ fun ex e μ => some (ex, valsOf (Lv.at { ret := R69, exits := [(2, [(0, .s)])] } [(0, .s), (43, .i .i64)] ex) e, μ)
noncomputable def overdubref05_residuals_L2 (os vs : List AV) (μ : AMem) : Option Res := loopA (overdubref05_residuals_L2_B os) vs μ
noncomputable def overdubref05_residuals_L1_B (os vs : List AV) (μ : AMem) : Option Res := joinK [(6, .s), (14, .i .i64)] vs (envO [0, 1, 13] os) fun e => den Tryz.prog G69 Tryz.f69.ntmps (cL (cL (cR (cL (cR (cR (bodyOf Tryz.f69))))))) (aL (aL (aR (aL (aR (aR A69)))))) { ret := R69, exits := [(0, [(0, .s), (6, .s)])] } Res e μ fun ex e μ => some (ex, valsOf (Lv.at { ret := R69, exits := [(0, [(0, .s), (6, .s)])] } [(6, .s), (14, .i .i64)] ex) e, μ)
noncomputable def overdubref05_residuals_L1 (os vs : List AV) (μ : AMem) : Option Res := loopA (overdubref05_residuals_L1_B os) vs μ
theorem overdubref05_residuals_L2_B_eq (s6 : SV) (s9 : Int) (s42 : Int) (s0 : SV) (s43 : Int) (μ : AMem) : overdubref05_residuals_L2_B [.s s6, .s (.int .i64 s9), .s (.int .i64 s42)] [.s s0, .s (.int .i64 s43)] μ =
 bif decide (s43 < s42) then
 (indS 1 (.s s6) s43 fun p52 =>
 loadAt μ p52 fun v53 =>
 asI .i64 v53 fun n54 =>
 (overdubref01_Bits_Rice [.s s0, .s (.int .i64 n54), .s (.int .i64 s9)] μ).bind fun r55 =>
 extrK 0 r55.1 fun t56 =>
 asS t56 fun x57 =>
 extrK 1 r55.1 fun t58 =>
 asB t58 fun b59 =>
 some (.normal, [.s x57, .s (.int .i64 (IntKind.wrap .i64 (s43 + 1)))], r55.2))
 else
 (some (.exit 2, [.s s0], μ)) := by rw [← G69_96]; kernel_rfl
theorem overdubref05_residuals_L2_eq (os vs : List AV) (μ : AMem) : overdubref05_residuals_L2 os vs μ = (overdubref05_residuals_L2_B os vs μ).bind fun r => match r.1 with | .normal => overdubref05_residuals_L2 os r.2.1 r.2.2 | _ => some r := loopA_eq _ _ _
theorem overdubref05_residuals_L1_B_eq (s0 : SV) (s1 : SV) (s13 : Int) (s6 : SV) (s14 : Int) (μ : AMem) : overdubref05_residuals_L1_B [.s s0, .s s1, .s (.int .i64 s13)] [.s s6, .s (.int .i64 s14)] μ =
 bif decide (s14 < s13) then
 (indS 1 (.s s1) s14 fun p44 =>
 loadAt μ p44 fun v45 =>
 asI .i64 v45 fun n46 =>
 (overdubref01_Zig [.s (.int .i64 n46)] μ).bind fun r47 =>
 asI .i64 r47.1 fun n48 =>
 bif decide (n48 ≥ 4294967296) then
 (some (.ret, [.s s0, .s (.bool false)], r47.2))
 else
 (appendA 3 1 8 (r47.2.next + 3) ((r47.2.bump 5).set (r47.2.next + 2) (rowObj [.int .i64 n48] 1 3 (some 1))) (.s s6) (.s (.slice (r47.2.next + 2) 0 0 1)) fun x49 m50 =>
 asS x49 fun x51 =>
 some (.normal, [.s x51, .s (.int .i64 (IntKind.wrap .i64 (s14 + 1)))], m50)))
 else
 (some (.exit 0, [.s s0, .s s6], μ)) := by rw [← G69_94]; kernel_rfl
theorem overdubref05_residuals_L1_eq (os vs : List AV) (μ : AMem) : overdubref05_residuals_L1 os vs μ = (overdubref05_residuals_L1_B os vs μ).bind fun r => match r.1 with | .normal => overdubref05_residuals_L1 os r.2.1 r.2.2 | _ => some r := loopA_eq _ _ _
theorem overdubref05_residuals_eq (p0 : SV) (p1 : SV) (μ : AMem) : overdubref05_residuals [.s p0, .s p1] μ =
 (lenS (.s p1)).bind fun l1 =>
 seqJ (overdubref05_residuals_L1 [.s p0, .s p1, .s (.int .i64 ((l1 : Nat) : Int))] [.s .nilSlice, .s (.int .i64 0)] μ)
 (fun _ _ => none)
 (fun vs2 m3 =>
 headK vs2 fun a7 r8 =>
 asS a7 fun x9 =>
 headK r8 fun a10 r11 =>
 asB a10 fun b12 =>
 some (.tuple [.s x9, .s (.bool b12)], m3))
 (fun d6 vs4 m5 =>
 bif Nat.beq 0 d6 then (headK vs4 fun a13 r14 =>
 asS a13 fun x15 =>
 headK r14 fun a16 r17 =>
 asS a16 fun x18 =>
 (overdubref01_Best [.s x18] m5).bind fun r19 =>
 extrK 0 r19.1 fun t20 =>
 asI .i64 t20 fun n21 =>
 extrK 1 r19.1 fun t22 =>
 asI .i64 t22 fun n23 =>
 (overdubref01_Bits_Put [.s x15, .s (.int .i64 n21), .s (.int .i64 5)] r19.2).bind fun r24 =>
 extrK 0 r24.1 fun t25 =>
 asS t25 fun x26 =>
 extrK 1 r24.1 fun t27 =>
 asB t27 fun b28 =>
 (lenS (.s x18)).bind fun l29 =>
 seqJ (overdubref05_residuals_L2 [.s x18, .s (.int .i64 n21), .s (.int .i64 ((l29 : Nat) : Int))] [.s x26, .s (.int .i64 0)] r24.2)
 (fun _ _ => none)
 (fun vs30 m31 =>
 headK vs30 fun a35 r36 =>
 asS a35 fun x37 =>
 headK r36 fun a38 r39 =>
 asB a38 fun b40 =>
 some (.tuple [.s x37, .s (.bool b40)], m31))
 (fun d34 vs32 m33 =>
 bif Nat.beq 2 d34 then (headK vs32 fun a41 r42 =>
 asS a41 fun x43 =>
 some (.tuple [.s x43, .s (.bool true)], m33)) else (none))) else (none)) := by rw [← G69_95, ← G69_66]; kernel_rfl

noncomputable def G97 : FuncId → FunA := fun g => bif Nat.beq g 41 then overdubref05_May else fun _ _ => none
theorem G97_41 : G97 41 = overdubref05_May := by kernel_rfl
def A97 : Ann := .two (.leaf) (.two (.join [(16, .b)] [0, 1] [] (.leaf) (.two (.two (.leaf) (.leaf)) (.leaf))) (.two (.two (.leaf) (.two (.leaf) (.two (.two (.leaf) (.leaf)) (.leaf)))) (.two (.leaf) (.two (.two (.leaf) (.join [(7, .s)] [] [] (.loop [(7, .s), (8, .i .i64)] [0, 1] [0] (.two (.two (.leaf) (.two (.leaf) (.leaf))) (.two (.join [(0, .s), (1, .i .i64), (7, .s), (8, .i .i64)] [] [] (.two (.leaf) (.two (.two (.leaf) (.join [(0, .s), (1, .i .i64), (7, .s), (8, .i .i64), (9, .i .i64)] [] [] (.loop [(9, .i .i64), (10, .i .i64)] [0, 1, 7, 8] [2] (.two (.two (.leaf) (.two (.leaf) (.leaf))) (.two (.join [(0, .s), (1, .i .i64), (7, .s), (8, .i .i64), (9, .i .i64), (10, .i .i64)] [] [] (.ord [0, 1, 2, 3, 4, 5, 6, 7, 8, 9, 10, 11, 12, 13]) .leaf) (.leaf)))) .leaf)) (.leaf))) .leaf) (.leaf)))) .leaf)) (.two (.leaf) (.leaf))))))
def R97 : Slots := [(4, .s), (5, .i .i64)]
noncomputable def overdubref05_Auto : FunA := denF Tryz.prog G97 Tryz.f97 A97 R97
noncomputable def overdubref05_Auto_L2_B (os vs : List AV) (μ : AMem) : Option Res := joinK [(9, .i .i64), (10, .i .i64)] vs (envO [0, 1, 7, 8] os) fun e => den Tryz.prog G97 Tryz.f97.ntmps (cL (cL (cR (cL (cR (cL (cL (cR (cL (cL (cR (cL (cR (cR (cR (cR (bodyOf Tryz.f97))))))))))))))))) (aL (aL (aR (aL (aR (aL (aL (aR (aL (aL (aR (aL (aR (aR (aR (aR A97)))))))))))))))) { ret := R97, exits := [(2, [(0, .s), (1, .i .i64), (7, .s), (8, .i .i64), (9, .i .i64)]), (1, [(0, .s), (1, .i .i64), (7, .s), (8, .i .i64)]), (0, [(7, .s)])] } Res e μ fun ex e μ => some (ex, valsOf (Lv.at { ret := R97, exits := [(2, [(0, .s), (1, .i .i64), (7, .s), (8, .i .i64), (9, .i .i64)]), (1, [(0, .s), (1, .i .i64), (7, .s), (8, .i .i64)]), (0, [(7, .s)])] } [(9, .i .i64), (10, .i .i64)] ex) e, μ)
noncomputable def overdubref05_Auto_L2 (os vs : List AV) (μ : AMem) : Option Res := loopA (overdubref05_Auto_L2_B os) vs μ
noncomputable def overdubref05_Auto_L1_B (os vs : List AV) (μ : AMem) : Option Res := joinK [(7, .s), (8, .i .i64)] vs (envO [0, 1] os) fun e => den Tryz.prog G97 Tryz.f97.ntmps (cL (cL (cR (cL (cR (cR (cR (cR (bodyOf Tryz.f97))))))))) (aL (aL (aR (aL (aR (aR (aR (aR A97)))))))) { ret := R97, exits := [(0, [(7, .s)])] } Res e μ fun ex e μ => some (ex, valsOf (Lv.at { ret := R97, exits := [(0, [(7, .s)])] } [(7, .s), (8, .i .i64)] ex) e, μ)
noncomputable def overdubref05_Auto_L1 (os vs : List AV) (μ : AMem) : Option Res := loopA (overdubref05_Auto_L1_B os) vs μ
theorem overdubref05_Auto_L2_B_eq (s0 : SV) (s1 : Int) (s7 : SV) (s8 : Int) (s9 : Int) (s10 : Int) (μ : AMem) : overdubref05_Auto_L2_B [.s s0, .s (.int .i64 s1), .s s7, .s (.int .i64 s8)] [.s (.int .i64 s9), .s (.int .i64 s10)] μ =
 (lenS (.s s0)).bind fun l62 =>
 bif decide (s10 < ((l62 : Nat) : Int)) then
 (indS 1 (.s s0) s10 fun p63 =>
 loadAt μ p63 fun v64 =>
 asI .i64 v64 fun n65 =>
 indS 1 (.s s0) (IntKind.wrap .i64 (s10 - s8)) fun p66 =>
 loadAt μ p66 fun v67 =>
 asI .i64 v67 fun n68 =>
 some (.normal, [.s (.int .i64 (IntKind.wrap .i64 (s9 + (IntKind.wrap .i64 (n65 * n68))))), .s (.int .i64 (IntKind.wrap .i64 (s10 + 1)))], μ))
 else
 (some (.exit 2, [.s s0, .s (.int .i64 s1), .s s7, .s (.int .i64 s8), .s (.int .i64 s9)], μ)) := by kernel_rfl
theorem overdubref05_Auto_L2_eq (os vs : List AV) (μ : AMem) : overdubref05_Auto_L2 os vs μ = (overdubref05_Auto_L2_B os vs μ).bind fun r => match r.1 with | .normal => overdubref05_Auto_L2 os r.2.1 r.2.2 | _ => some r := loopA_eq _ _ _
theorem overdubref05_Auto_L1_B_eq (s0 : SV) (s1 : Int) (s7 : SV) (s8 : Int) (μ : AMem) : overdubref05_Auto_L1_B [.s s0, .s (.int .i64 s1)] [.s s7, .s (.int .i64 s8)] μ =
 bif decide (s8 ≤ s1) then
 (seqJ (overdubref05_Auto_L2 [.s s0, .s (.int .i64 s1), .s s7, .s (.int .i64 s8)] [.s (.int .i64 0), .s (.int .i64 s8)] μ)
 (fun _ _ => none)
 (fun vs33 m34 =>
 headK vs33 fun a38 r39 =>
 asS a38 fun x40 =>
 headK r39 fun a41 r42 =>
 asI .i64 a41 fun n43 =>
 some (.ret, [.s x40, .s (.int .i64 n43)], m34))
 (fun d37 vs35 m36 =>
 bif Nat.beq 2 d37 then (headK vs35 fun a44 r45 =>
 asS a44 fun x46 =>
 headK r45 fun a47 r48 =>
 asI .i64 a47 fun n49 =>
 headK r48 fun a50 r51 =>
 asS a50 fun x52 =>
 headK r51 fun a53 r54 =>
 asI .i64 a53 fun n55 =>
 headK r54 fun a56 r57 =>
 asI .i64 a56 fun n58 =>
 appendA 3 1 8 (m36.next + 3) ((m36.bump 5).set (m36.next + 2) (rowObj [.int .i64 n58] 1 3 (some 1))) (.s x52) (.s (.slice (m36.next + 2) 0 0 1)) fun x59 m60 =>
 asS x59 fun x61 =>
 some (.normal, [.s x61, .s (.int .i64 (IntKind.wrap .i64 (n55 + 1)))], m60)) else (none)))
 else
 (some (.exit 0, [.s s7], μ)) := by kernel_rfl
theorem overdubref05_Auto_L1_eq (os vs : List AV) (μ : AMem) : overdubref05_Auto_L1 os vs μ = (overdubref05_Auto_L1_B os vs μ).bind fun r => match r.1 with | .normal => overdubref05_Auto_L1 os r.2.1 r.2.2 | _ => some r := loopA_eq _ _ _
theorem overdubref05_Auto_eq (p0 : SV) (p1 : Int) (μ : AMem) : overdubref05_Auto [.s p0, .s (.int .i64 p1)] μ =
 seqJ
 (bif !(decide (p1 < 0)) then
 (some (.normal, [.s (.bool (decide (p1 > 12)))], μ))
 else
 (some (.normal, [.s (.bool true)], μ)))
 (fun vs1 m2 =>
 headK vs1 fun a3 r4 =>
 asB a3 fun b5 =>
 bif b5 then
 (some (.tuple [.s .nilSlice, .s (.int .i64 1)], m2))
 else
 ((overdubref05_May [.s p0] m2).bind fun r6 =>
 asI .i64 r6.1 fun n7 =>
 bif (n7 != 0) then
 (some (.tuple [.s .nilSlice, .s (.int .i64 n7)], r6.2))
 else
 (seqJ (overdubref05_Auto_L1 [.s p0, .s (.int .i64 p1)] [.s .nilSlice, .s (.int .i64 0)] r6.2)
 (fun _ _ => none)
 (fun vs8 m9 =>
 headK vs8 fun a13 r14 =>
 asS a13 fun x15 =>
 headK r14 fun a16 r17 =>
 asI .i64 a16 fun n18 =>
 some (.tuple [.s x15, .s (.int .i64 n18)], m9))
 (fun d12 vs10 m11 =>
 bif Nat.beq 0 d12 then (headK vs10 fun a19 r20 =>
 asS a19 fun x21 =>
 some (.tuple [.s x21, .s (.int .i64 0)], m11)) else (none)))))
 (fun vs22 m23 =>
 headK vs22 fun a27 r28 =>
 asS a27 fun x29 =>
 headK r28 fun a30 r31 =>
 asI .i64 a30 fun n32 =>
 some (.tuple [.s x29, .s (.int .i64 n32)], m23))
 (fun d26 vs24 m25 =>
 none) := by rw [← G97_41]; kernel_rfl

noncomputable def G99 : FuncId → FunA := fun _ _ _ => none
def A99 : Ann := .two (.leaf) (.two (.leaf) (.join [(5, .i .i64)] [] [] (.join [(16, .b)] [5] [] (.leaf) (.two (.leaf) (.leaf))) (.two (.leaf) (.leaf))))
def R99 : Slots := [(4, .i .i64)]
noncomputable def overdubref05_down : FunA := denF Tryz.prog G99 Tryz.f99 A99 R99
theorem overdubref05_down_eq (p0 : Int) (p1 : Int) (μ : AMem) : overdubref05_down [.s (.int .i64 p0), .s (.int .i64 p1)] μ =
 if p1 = 0 then none else
 (seqJ
 (seqJ
 (if p1 = 0 then none else
 (bif ((Int.tmod p0 p1) != 0) then
 (some (.normal, [.s (.bool (decide (p0 < 0)))], μ))
 else
 (some (.normal, [.s (.bool false)], μ))))
 (fun vs1 m2 =>
 headK vs1 fun a3 r4 =>
 asB a3 fun b5 =>
 bif b5 then
 (some (.normal, [.s (.int .i64 (IntKind.wrap .i64 ((IntKind.wrap .i64 (Int.tdiv p0 p1)) - 1)))], m2))
 else
 (some (.normal, [.s (.int .i64 (IntKind.wrap .i64 (Int.tdiv p0 p1)))], m2)))
 (fun vs6 m7 =>
 headK vs6 fun a11 r12 =>
 asI .i64 a11 fun n13 =>
 some (.ret, [.s (.int .i64 n13)], m7))
 (fun d10 vs8 m9 =>
 none))
 (fun vs14 m15 =>
 headK vs14 fun a16 r17 =>
 asI .i64 a16 fun n18 =>
 some (.s (.int .i64 n18), m15))
 (fun vs19 m20 =>
 headK vs19 fun a24 r25 =>
 asI .i64 a24 fun n26 =>
 some (.s (.int .i64 n26), m20))
 (fun d23 vs21 m22 =>
 none)) := by kernel_rfl

noncomputable def G98 : FuncId → FunA := fun g => bif Nat.beq g 99 then overdubref05_down else fun _ _ => none
theorem G98_99 : G98 99 = overdubref05_down := by kernel_rfl
def A98 : Ann := .two (.leaf) (.two (.join [(16, .b)] [0] [] (.leaf) (.two (.two (.leaf) (.leaf)) (.leaf))) (.two (.two (.leaf) (.join [(0, .s)] [] [] (.loop [(19, .i .i64)] [0, 18] [0] (.two (.leaf) (.two (.two (.leaf) (.leaf)) (.two (.join [(0, .s), (18, .i .i64), (19, .i .i64)] [] [] (.two (.leaf) (.join [(33, .b)] [0, 18, 19] [] (.leaf) (.two (.two (.leaf) (.leaf)) (.leaf)))) .leaf) (.leaf))))) .leaf)) (.two (.leaf) (.two (.join [(0, .s), (5, .i .i64)] [] [] (.loop [(5, .i .i64)] [0] [2] (.two (.two (.leaf) (.two (.leaf) (.leaf))) (.join [(0, .s), (5, .i .i64)] [] [] (.leaf) .leaf))) .leaf) (.two (.leaf) (.two (.two (.leaf) (.join [(5, .i .i64), (6, .s)] [] [] (.loop [(6, .s), (47, .i .i64)] [0, 5, 46] [4] (.two (.leaf) (.two (.two (.leaf) (.leaf)) (.two (.join [(0, .s), (5, .i .i64), (6, .s), (46, .i .i64), (47, .i .i64)] [] [] (.two (.leaf) (.leaf)) .leaf) (.leaf))))) .leaf)) (.two (.leaf) (.leaf))))))))
def R98 : Slots := [(2, .s), (3, .i .i64)]
noncomputable def overdubref05_Scaled : FunA := denF Tryz.prog G98 Tryz.f98 A98 R98
noncomputable def overdubref05_Scaled_L3_B (os vs : List AV) (μ : AMem) : Option Res := joinK [(6, .s), (47, .i .i64)] vs (envO [0, 5, 46] os) fun e => den Tryz.prog G98 Tryz.f98.ntmps (cL (cL (cR (cL (cR (cR (cR (cR (cR (cR (bodyOf Tryz.f98))))))))))) (aL (aL (aR (aL (aR (aR (aR (aR (aR (aR A98)))))))))) { ret := R98, exits := [(4, [(5, .i .i64), (6, .s)])] } Res e μ fun ex e μ => some (ex, valsOf (Lv.at { ret := R98, exits := [(4, [(5, .i .i64), (6, .s)])] } [(6, .s), (47, .i .i64)] ex) e, μ)
noncomputable def overdubref05_Scaled_L3 (os vs : List AV) (μ : AMem) : Option Res := loopA (overdubref05_Scaled_L3_B os) vs μ
noncomputable def overdubref05_Scaled_L2_B (os vs : List AV) (μ : AMem) : Option Res := joinK [(5, .i .i64)] vs (envO [0] os) fun e => den Tryz.prog G98 Tryz.f98.ntmps (cL (cL (cL (cR (cR (cR (cR (bodyOf Tryz.f98)))))))) (aL (aL (aL (aR (aR (aR (aR A98))))))) { ret := R98, exits := [(2, [(0, .s), (5, .i .i64)])] } Res e μ fun ex e μ => some (ex, valsOf (Lv.at { ret := R98, exits := [(2, [(0, .s), (5, .i .i64)])] } [(5, .i .i64)] ex) e, μ)
noncomputable def overdubref05_Scaled_L2 (os vs : List AV) (μ : AMem) : Option Res := loopA (overdubref05_Scaled_L2_B os) vs μ
noncomputable def overdubref05_Scaled_L1_B (os vs : List AV) (μ : AMem) : Option Res := joinK [(19, .i .i64)] vs (envO [0, 18] os) fun e => den Tryz.prog G98 Tryz.f98.ntmps (cL (cL (cR (cL (cR (cR (bodyOf Tryz.f98))))))) (aL (aL (aR (aL (aR (aR A98)))))) { ret := R98, exits := [(0, [(0, .s)])] } Res e μ fun ex e μ => some (ex, valsOf (Lv.at { ret := R98, exits := [(0, [(0, .s)])] } [(19, .i .i64)] ex) e, μ)
noncomputable def overdubref05_Scaled_L1 (os vs : List AV) (μ : AMem) : Option Res := loopA (overdubref05_Scaled_L1_B os) vs μ
theorem overdubref05_Scaled_L3_B_eq (s0 : SV) (s5 : Int) (s46 : Int) (s6 : SV) (s47 : Int) (μ : AMem) : overdubref05_Scaled_L3_B [.s s0, .s (.int .i64 s5), .s (.int .i64 s46)] [.s s6, .s (.int .i64 s47)] μ =
 bif decide (s47 < s46) then
 (indS 1 (.s s0) s47 fun p98 =>
 loadAt (μ.bump 12) p98 fun v99 =>
 asI .i64 v99 fun n100 =>
 if (IntKind.wrap .u64 s5) < 0 then none else
 ((overdubref05_down [.s (.int .i64 n100), .s (.int .i64 (IntKind.wrap .i64 (1 * 2 ^ (min (Int.toNat (IntKind.wrap .u64 s5)) (IntKind.bits .i64)))))] (μ.bump 12)).bind fun r101 =>
 asI .i64 r101.1 fun n102 =>
 appendA 3 1 8 (μ.next + 10) (r101.2.set (μ.next + 9) (rowObj [.int .i64 n102] 1 3 (some 1))) (.s s6) (.s (.slice (μ.next + 9) 0 0 1)) fun x103 m104 =>
 asS x103 fun x105 =>
 some (.normal, [.s x105, .s (.int .i64 (IntKind.wrap .i64 (s47 + 1)))], m104)))
 else
 (some (.exit 4, [.s (.int .i64 s5), .s s6], μ)) := by rw [← G98_99]; kernel_rfl
theorem overdubref05_Scaled_L3_eq (os vs : List AV) (μ : AMem) : overdubref05_Scaled_L3 os vs μ = (overdubref05_Scaled_L3_B os vs μ).bind fun r => match r.1 with | .normal => overdubref05_Scaled_L3 os r.2.1 r.2.2 | _ => some r := loopA_eq _ _ _
theorem overdubref05_Scaled_L2_B_eq (s0 : SV) (s5 : Int) (μ : AMem) : overdubref05_Scaled_L2_B [.s s0] [.s (.int .i64 s5)] μ =
 indS 1 (.s s0) 0 fun p93 =>
 loadAt μ p93 fun v94 =>
 asI .i64 v94 fun n95 =>
 if (IntKind.wrap .u64 s5) < 0 then none else
 ((overdubref05_down [.s (.int .i64 n95), .s (.int .i64 (IntKind.wrap .i64 (1 * 2 ^ (min (Int.toNat (IntKind.wrap .u64 s5)) (IntKind.bits .i64)))))] μ).bind fun r96 =>
 asI .i64 r96.1 fun n97 =>
 bif decide (n97 ≥ 1073741824) then
 (some (.normal, [.s (.int .i64 (IntKind.wrap .i64 (s5 + 1)))], r96.2))
 else
 (some (.exit 2, [.s s0, .s (.int .i64 s5)], r96.2))) := by rw [← G98_99]; kernel_rfl
theorem overdubref05_Scaled_L2_eq (os vs : List AV) (μ : AMem) : overdubref05_Scaled_L2 os vs μ = (overdubref05_Scaled_L2_B os vs μ).bind fun r => match r.1 with | .normal => overdubref05_Scaled_L2 os r.2.1 r.2.2 | _ => some r := loopA_eq _ _ _
theorem overdubref05_Scaled_L1_B_eq (s0 : SV) (s18 : Int) (s19 : Int) (μ : AMem) : overdubref05_Scaled_L1_B [.s s0, .s (.int .i64 s18)] [.s (.int .i64 s19)] μ =
 bif decide (s19 < s18) then
 (seqJ
 (indS 1 (.s s0) s19 fun p71 =>
 loadAt μ p71 fun v72 =>
 asI .i64 v72 fun n73 =>
 bif !(decide (n73 < (-1152921504606846976))) then
 (indS 1 (.s s0) s19 fun p74 =>
 loadAt μ p74 fun v75 =>
 asI .i64 v75 fun n76 =>
 some (.normal, [.s (.bool (decide (n76 > 1152921504606846976)))], μ))
 else
 (some (.normal, [.s (.bool true)], μ)))
 (fun vs77 m78 =>
 headK vs77 fun a79 r80 =>
 asB a79 fun b81 =>
 bif b81 then
 (some (.ret, [.s .nilSlice, .s (.int .i64 0)], m78))
 else
 (some (.normal, [.s (.int .i64 (IntKind.wrap .i64 (s19 + 1)))], m78)))
 (fun vs82 m83 =>
 headK vs82 fun a87 r88 =>
 asS a87 fun x89 =>
 headK r88 fun a90 r91 =>
 asI .i64 a90 fun n92 =>
 some (.ret, [.s x89, .s (.int .i64 n92)], m83))
 (fun d86 vs84 m85 =>
 none))
 else
 (some (.exit 0, [.s s0], μ)) := by kernel_rfl
theorem overdubref05_Scaled_L1_eq (os vs : List AV) (μ : AMem) : overdubref05_Scaled_L1 os vs μ = (overdubref05_Scaled_L1_B os vs μ).bind fun r => match r.1 with | .normal => overdubref05_Scaled_L1 os r.2.1 r.2.2 | _ => some r := loopA_eq _ _ _
theorem overdubref05_Scaled_eq (p0 : SV) (μ : AMem) : overdubref05_Scaled [.s p0] μ =
 seqJ
 ((lenS (.s p0)).bind fun l1 =>
 bif !(((l1 : Nat) : Int) == 0) then
 (indS 1 (.s p0) 0 fun p2 =>
 loadAt μ p2 fun v3 =>
 asI .i64 v3 fun n4 =>
 some (.normal, [.s (.bool (decide (n4 < 0)))], μ))
 else
 (some (.normal, [.s (.bool true)], μ)))
 (fun vs5 m6 =>
 headK vs5 fun a7 r8 =>
 asB a7 fun b9 =>
 bif b9 then
 (some (.tuple [.s .nilSlice, .s (.int .i64 0)], m6))
 else
 ((lenS (.s p0)).bind fun l10 =>
 seqJ (overdubref05_Scaled_L1 [.s p0, .s (.int .i64 ((l10 : Nat) : Int))] [.s (.int .i64 0)] m6)
 (fun _ _ => none)
 (fun vs11 m12 =>
 headK vs11 fun a16 r17 =>
 asS a16 fun x18 =>
 headK r17 fun a19 r20 =>
 asI .i64 a19 fun n21 =>
 some (.tuple [.s x18, .s (.int .i64 n21)], m12))
 (fun d15 vs13 m14 =>
 bif Nat.beq 0 d15 then (headK vs13 fun a22 r23 =>
 asS a22 fun x24 =>
 seqJ (overdubref05_Scaled_L2 [.s x24] [.s (.int .i64 0)] m14)
 (fun _ _ => none)
 (fun vs25 m26 =>
 headK vs25 fun a30 r31 =>
 asS a30 fun x32 =>
 headK r31 fun a33 r34 =>
 asI .i64 a33 fun n35 =>
 some (.tuple [.s x32, .s (.int .i64 n35)], m26))
 (fun d29 vs27 m28 =>
 bif Nat.beq 2 d29 then (headK vs27 fun a36 r37 =>
 asS a36 fun x38 =>
 headK r37 fun a39 r40 =>
 asI .i64 a39 fun n41 =>
 (lenS (.s x38)).bind fun l42 =>
 seqJ (overdubref05_Scaled_L3 [.s x38, .s (.int .i64 n41), .s (.int .i64 ((l42 : Nat) : Int))] [.s .nilSlice, .s (.int .i64 0)] m28)
 (fun _ _ => none)
 (fun vs43 m44 =>
 headK vs43 fun a48 r49 =>
 asS a48 fun x50 =>
 headK r49 fun a51 r52 =>
 asI .i64 a51 fun n53 =>
 some (.tuple [.s x50, .s (.int .i64 n53)], m44))
 (fun d47 vs45 m46 =>
 bif Nat.beq 4 d47 then (headK vs45 fun a54 r55 =>
 asI .i64 a54 fun n56 =>
 headK r55 fun a57 r58 =>
 asS a57 fun x59 =>
 some (.tuple [.s x59, .s (.int .i64 n56)], m46)) else (none))) else (none))) else (none))))
 (fun vs60 m61 =>
 headK vs60 fun a65 r66 =>
 asS a65 fun x67 =>
 headK r66 fun a68 r69 =>
 asI .i64 a68 fun n70 =>
 some (.tuple [.s x67, .s (.int .i64 n70)], m61))
 (fun d64 vs62 m63 =>
 none) := by kernel_rfl

noncomputable def G84 : FuncId → FunA := fun _ _ _ => none
def A84 : Ann := .two (.leaf) (.two (.two (.leaf) (.join [(0, .s)] [] [] (.loop [(6, .i .i64)] [0, 5] [0] (.two (.leaf) (.two (.two (.leaf) (.leaf)) (.two (.join [(0, .s), (5, .i .i64), (6, .i .i64)] [] [] (.two (.leaf) (.join [(20, .b)] [0, 5, 6] [] (.leaf) (.two (.two (.leaf) (.leaf)) (.leaf)))) .leaf) (.leaf))))) .leaf)) (.two (.leaf) (.leaf)))
def R84 : Slots := [(2, .b)]
noncomputable def overdubref05_MayCoefs : FunA := denF Tryz.prog G84 Tryz.f84 A84 R84
noncomputable def overdubref05_MayCoefs_L1_B (os vs : List AV) (μ : AMem) : Option Res := joinK [(6, .i .i64)] vs (envO [0, 5] os) fun e => den Tryz.prog G84 Tryz.f84.ntmps (cL (cL (cR (cL (cR (bodyOf Tryz.f84)))))) (aL (aL (aR (aL (aR A84))))) { ret := R84, exits := [(0, [(0, .s)])] } Res e μ fun ex e μ => some (ex, valsOf (Lv.at { ret := R84, exits := [(0, [(0, .s)])] } [(6, .i .i64)] ex) e, μ)
noncomputable def overdubref05_MayCoefs_L1 (os vs : List AV) (μ : AMem) : Option Res := loopA (overdubref05_MayCoefs_L1_B os) vs μ
theorem overdubref05_MayCoefs_L1_B_eq (s0 : SV) (s5 : Int) (s6 : Int) (μ : AMem) : overdubref05_MayCoefs_L1_B [.s s0, .s (.int .i64 s5)] [.s (.int .i64 s6)] μ =
 bif decide (s6 < s5) then
 (seqJ
 (indS 1 (.s s0) s6 fun p15 =>
 loadAt μ p15 fun v16 =>
 asI .i64 v16 fun n17 =>
 bif !(decide (n17 < (-32768))) then
 (indS 1 (.s s0) s6 fun p18 =>
 loadAt μ p18 fun v19 =>
 asI .i64 v19 fun n20 =>
 some (.normal, [.s (.bool (decide (n20 > 32767)))], μ))
 else
 (some (.normal, [.s (.bool true)], μ)))
 (fun vs21 m22 =>
 headK vs21 fun a23 r24 =>
 asB a23 fun b25 =>
 bif b25 then
 (some (.ret, [.s (.bool false)], m22))
 else
 (some (.normal, [.s (.int .i64 (IntKind.wrap .i64 (s6 + 1)))], m22)))
 (fun vs26 m27 =>
 headK vs26 fun a31 r32 =>
 asB a31 fun b33 =>
 some (.ret, [.s (.bool b33)], m27))
 (fun d30 vs28 m29 =>
 none))
 else
 (some (.exit 0, [.s s0], μ)) := by kernel_rfl
theorem overdubref05_MayCoefs_L1_eq (os vs : List AV) (μ : AMem) : overdubref05_MayCoefs_L1 os vs μ = (overdubref05_MayCoefs_L1_B os vs μ).bind fun r => match r.1 with | .normal => overdubref05_MayCoefs_L1 os r.2.1 r.2.2 | _ => some r := loopA_eq _ _ _
theorem overdubref05_MayCoefs_eq (p0 : SV) (μ : AMem) : overdubref05_MayCoefs [.s p0] μ =
 (lenS (.s p0)).bind fun l1 =>
 seqJ (overdubref05_MayCoefs_L1 [.s p0, .s (.int .i64 ((l1 : Nat) : Int))] [.s (.int .i64 0)] μ)
 (fun _ _ => none)
 (fun vs2 m3 =>
 headK vs2 fun a7 r8 =>
 asB a7 fun b9 =>
 some (.s (.bool b9), m3))
 (fun d6 vs4 m5 =>
 bif Nat.beq 0 d6 then (headK vs4 fun a10 r11 =>
 asS a10 fun x12 =>
 (lenS (.s x12)).bind fun l13 =>
 bif decide (((l13 : Nat) : Int) ≥ 1) then
 ((lenS (.s x12)).bind fun l14 =>
 some (.s (.bool (decide (((l14 : Nat) : Int) ≤ 12))), m5))
 else
 (some (.s (.bool false), m5))) else (none)) := by kernel_rfl

noncomputable def G70 : FuncId → FunA := fun g => bif Nat.beq g 97 then overdubref05_Auto else bif Nat.beq g 98 then overdubref05_Scaled else bif Nat.beq g 99 then overdubref05_down else bif Nat.beq g 84 then overdubref05_MayCoefs else fun _ _ => none
theorem G70_97 : G70 97 = overdubref05_Auto := by kernel_rfl
theorem G70_98 : G70 98 = overdubref05_Scaled := by kernel_rfl
theorem G70_99 : G70 99 = overdubref05_down := by kernel_rfl
theorem G70_84 : G70 84 = overdubref05_MayCoefs := by kernel_rfl
def A70 : Ann := .two (.leaf) (.two (.join [(29, .b)] [0, 1] [] (.leaf) (.two (.two (.leaf) (.leaf)) (.leaf))) (.two (.leaf) (.two (.two (.leaf) (.two (.two (.leaf) (.leaf)) (.leaf))) (.two (.leaf) (.two (.leaf) (.two (.leaf) (.two (.two (.leaf) (.join [(11, .s)] [] [] (.loop [(10, .i .i64), (12, .i .i64)] [1, 8, 11] [0] (.two (.two (.leaf) (.two (.leaf) (.leaf))) (.two (.join [(1, .i .i64), (8, .s), (10, .i .i64), (11, .s), (12, .i .i64)] [] [] (.two (.two (.leaf) (.two (.two (.leaf) (.leaf)) (.leaf))) (.two (.leaf) (.two (.two (.leaf) (.join [(1, .i .i64), (8, .s), (10, .i .i64), (11, .s), (12, .i .i64), (13, .i .i64)] [] [] (.loop [(13, .i .i64), (14, .i .i64)] [1, 8, 10, 11, 12] [2] (.two (.two (.leaf) (.two (.leaf) (.leaf))) (.two (.join [(1, .i .i64), (8, .s), (10, .i .i64), (11, .s), (12, .i .i64), (13, .i .i64), (14, .i .i64)] [] [] (.ord [0, 1, 2, 3, 4, 5, 6, 7, 8, 9, 10, 11, 12, 13]) .leaf) (.leaf)))) .leaf)) (.two (.leaf) (.two (.leaf) (.two (.two (.leaf) (.join [(1, .i .i64), (8, .s), (10, .i .i64), (11, .s), (12, .i .i64), (15, .i .i64)] [] [] (.loop [(17, .i .i64)] [1, 8, 10, 11, 12, 15, 16] [4] (.two (.two (.leaf) (.two (.leaf) (.leaf))) (.two (.join [(1, .i .i64), (8, .s), (10, .i .i64), (11, .s), (12, .i .i64), (15, .i .i64), (16, .s), (17, .i .i64)] [] [] (.ord [0, 1, 2, 3, 4, 5, 6, 7, 8, 9, 10, 11, 12, 13, 14, 15, 16, 17]) .leaf) (.leaf)))) .leaf)) (.two (.leaf) (.leaf)))))))) .leaf) (.leaf)))) .leaf)) (.two (.two (.leaf) (.two (.two (.leaf) (.leaf)) (.leaf))) (.two (.leaf) (.leaf))))))))))
def R70 : Slots := [(4, .s), (5, .b)]
noncomputable def overdubref05_Coefficients : FunA := denF Tryz.prog G70 Tryz.f70 A70 R70
noncomputable def overdubref05_Coefficients_L3_B (os vs : List AV) (μ : AMem) : Option Res := joinK [(17, .i .i64)] vs (envO [1, 8, 10, 11, 12, 15, 16] os) fun e => den Tryz.prog G70 Tryz.f70.ntmps (cL (cL (cR (cL (cR (cR (cR (cR (cR (cL (cL (cR (cL (cL (cR (cL (cR (cR (cR (cR (cR (cR (cR (bodyOf Tryz.f70)))))))))))))))))))))))) (aL (aL (aR (aL (aR (aR (aR (aR (aR (aL (aL (aR (aL (aL (aR (aL (aR (aR (aR (aR (aR (aR (aR A70))))))))))))))))))))))) { ret := R70, exits := [(4, [(1, .i .i64), (8, .s), (10, .i .i64), (11, .s), (12, .i .i64), (15, .i .i64)]), (1, [(1, .i .i64), (8, .s), (10, .i .i64), (11, .s), (12, .i .i64)]), (0, [(11, .s)])] } Res e μ fun ex e μ => some (ex, valsOf (Lv.at { ret := R70, exits := [(4, [(1, .i .i64), (8, .s), (10, .i .i64), (11, .s), (12, .i .i64), (15, .i .i64)]), (1, [(1, .i .i64), (8, .s), (10, .i .i64), (11, .s), (12, .i .i64)]), (0, [(11, .s)])] } [(17, .i .i64)] ex) e, μ)
noncomputable def overdubref05_Coefficients_L3 (os vs : List AV) (μ : AMem) : Option Res := loopA (overdubref05_Coefficients_L3_B os) vs μ
noncomputable def overdubref05_Coefficients_L2_B (os vs : List AV) (μ : AMem) : Option Res := joinK [(13, .i .i64), (14, .i .i64)] vs (envO [1, 8, 10, 11, 12] os) fun e => den Tryz.prog G70 Tryz.f70.ntmps (cL (cL (cR (cL (cR (cR (cL (cL (cR (cL (cL (cR (cL (cR (cR (cR (cR (cR (cR (cR (bodyOf Tryz.f70))))))))))))))))))))) (aL (aL (aR (aL (aR (aR (aL (aL (aR (aL (aL (aR (aL (aR (aR (aR (aR (aR (aR (aR A70)))))))))))))))))))) { ret := R70, exits := [(2, [(1, .i .i64), (8, .s), (10, .i .i64), (11, .s), (12, .i .i64), (13, .i .i64)]), (1, [(1, .i .i64), (8, .s), (10, .i .i64), (11, .s), (12, .i .i64)]), (0, [(11, .s)])] } Res e μ fun ex e μ => some (ex, valsOf (Lv.at { ret := R70, exits := [(2, [(1, .i .i64), (8, .s), (10, .i .i64), (11, .s), (12, .i .i64), (13, .i .i64)]), (1, [(1, .i .i64), (8, .s), (10, .i .i64), (11, .s), (12, .i .i64)]), (0, [(11, .s)])] } [(13, .i .i64), (14, .i .i64)] ex) e, μ)
noncomputable def overdubref05_Coefficients_L2 (os vs : List AV) (μ : AMem) : Option Res := loopA (overdubref05_Coefficients_L2_B os) vs μ
noncomputable def overdubref05_Coefficients_L1_B (os vs : List AV) (μ : AMem) : Option Res := joinK [(10, .i .i64), (12, .i .i64)] vs (envO [1, 8, 11] os) fun e => den Tryz.prog G70 Tryz.f70.ntmps (cL (cL (cR (cL (cR (cR (cR (cR (cR (cR (cR (bodyOf Tryz.f70)))))))))))) (aL (aL (aR (aL (aR (aR (aR (aR (aR (aR (aR A70))))))))))) { ret := R70, exits := [(0, [(11, .s)])] } Res e μ fun ex e μ => some (ex, valsOf (Lv.at { ret := R70, exits := [(0, [(11, .s)])] } [(10, .i .i64), (12, .i .i64)] ex) e, μ)
noncomputable def overdubref05_Coefficients_L1 (os vs : List AV) (μ : AMem) : Option Res := loopA (overdubref05_Coefficients_L1_B os) vs μ
theorem overdubref05_Coefficients_L3_B_eq (s1 : Int) (s8 : SV) (s10 : Int) (s11 : SV) (s12 : Int) (s15 : Int) (s16 : SV) (s17 : Int) (μ : AMem) : overdubref05_Coefficients_L3_B [.s (.int .i64 s1), .s s8, .s (.int .i64 s10), .s s11, .s (.int .i64 s12), .s (.int .i64 s15), .s s16] [.s (.int .i64 s17)] μ =
 bif decide (s17 < s12) then
 (indS 1 (.s s16) s17 fun p129 =>
 loadAt μ p129 fun v130 =>
 asI .i64 v130 fun n131 =>
 indS 1 (.s s16) (IntKind.wrap .i64 (s12 - s17)) fun p132 =>
 loadAt μ p132 fun v133 =>
 asI .i64 v133 fun n134 =>
 (overdubref05_down [.s (.int .i64 (IntKind.wrap .i64 (s15 * n134))), .s (.int .i64 4096)] μ).bind fun r135 =>
 asI .i64 r135.1 fun n136 =>
 checkA ((loadAt r135.2 p129 some) = some (.s (.int .i64 n131)))
 (indS 1 (.s s11) s17 fun p137 =>
 storeAt 1 r135.2 p137 (.s (.int .i64 (IntKind.wrap .i64 (n131 - n136)))) fun m138 =>
 some (.normal, [.s (.int .i64 (IntKind.wrap .i64 (s17 + 1)))], m138)))
 else
 (some (.exit 4, [.s (.int .i64 s1), .s s8, .s (.int .i64 s10), .s s11, .s (.int .i64 s12), .s (.int .i64 s15)], μ)) := by rw [← G70_99]; kernel_rfl
theorem overdubref05_Coefficients_L3_eq (os vs : List AV) (μ : AMem) : overdubref05_Coefficients_L3 os vs μ = (overdubref05_Coefficients_L3_B os vs μ).bind fun r => match r.1 with | .normal => overdubref05_Coefficients_L3 os r.2.1 r.2.2 | _ => some r := loopA_eq _ _ _
theorem overdubref05_Coefficients_L2_B_eq (s1 : Int) (s8 : SV) (s10 : Int) (s11 : SV) (s12 : Int) (s13 : Int) (s14 : Int) (μ : AMem) : overdubref05_Coefficients_L2_B [.s (.int .i64 s1), .s s8, .s (.int .i64 s10), .s s11, .s (.int .i64 s12)] [.s (.int .i64 s13), .s (.int .i64 s14)] μ =
 bif decide (s14 < s12) then
 (indS 1 (.s s11) s14 fun p123 =>
 loadAt μ p123 fun v124 =>
 asI .i64 v124 fun n125 =>
 indS 1 (.s s8) (IntKind.wrap .i64 (s12 - s14)) fun p126 =>
 loadAt μ p126 fun v127 =>
 asI .i64 v127 fun n128 =>
 some (.normal, [.s (.int .i64 (IntKind.wrap .i64 (s13 - (IntKind.wrap .i64 (n125 * n128))))), .s (.int .i64 (IntKind.wrap .i64 (s14 + 1)))], μ))
 else
 (some (.exit 2, [.s (.int .i64 s1), .s s8, .s (.int .i64 s10), .s s11, .s (.int .i64 s12), .s (.int .i64 s13)], μ)) := by kernel_rfl
theorem overdubref05_Coefficients_L2_eq (os vs : List AV) (μ : AMem) : overdubref05_Coefficients_L2 os vs μ = (overdubref05_Coefficients_L2_B os vs μ).bind fun r => match r.1 with | .normal => overdubref05_Coefficients_L2 os r.2.1 r.2.2 | _ => some r := loopA_eq _ _ _
theorem overdubref05_Coefficients_L1_B_eq (s1 : Int) (s8 : SV) (s11 : SV) (s10 : Int) (s12 : Int) (μ : AMem) : overdubref05_Coefficients_L1_B [.s (.int .i64 s1), .s s8, .s s11] [.s (.int .i64 s10), .s (.int .i64 s12)] μ =
 bif decide (s12 ≤ s1) then
 (bif decide (s10 < 1) then
 (some (.ret, [.s .nilSlice, .s (.bool false)], μ))
 else
 (indS 1 (.s s8) s12 fun p51 =>
 loadAt μ p51 fun v52 =>
 asI .i64 v52 fun n53 =>
 seqJ (overdubref05_Coefficients_L2 [.s (.int .i64 s1), .s s8, .s (.int .i64 s10), .s s11, .s (.int .i64 s12)] [.s (.int .i64 (IntKind.wrap .i64 (n53 * 4096))), .s (.int .i64 1)] μ)
 (fun _ _ => none)
 (fun vs54 m55 =>
 headK vs54 fun a59 r60 =>
 asS a59 fun x61 =>
 headK r60 fun a62 r63 =>
 asB a62 fun b64 =>
 some (.ret, [.s x61, .s (.bool b64)], m55))
 (fun d58 vs56 m57 =>
 bif Nat.beq 2 d58 then (headK vs56 fun a65 r66 =>
 asI .i64 a65 fun n67 =>
 headK r66 fun a68 r69 =>
 asS a68 fun x70 =>
 headK r69 fun a71 r72 =>
 asI .i64 a71 fun n73 =>
 headK r72 fun a74 r75 =>
 asS a74 fun x76 =>
 headK r75 fun a77 r78 =>
 asI .i64 a77 fun n79 =>
 headK r78 fun a80 r81 =>
 asI .i64 a80 fun n82 =>
 (overdubref05_down [.s (.int .i64 n82), .s (.int .i64 n73)] m57).bind fun r83 =>
 asI .i64 r83.1 fun n84 =>
 appendA 3 1 8 (r83.2.next + 1) (r83.2.bump 3) (.s .nilSlice) (.s x76) fun x85 m86 =>
 asS x85 fun x87 =>
 seqJ (overdubref05_Coefficients_L3 [.s (.int .i64 n67), .s x70, .s (.int .i64 n73), .s x76, .s (.int .i64 n79), .s (.int .i64 (if 4095 < (if (-4095) > n84 then (-4095) else n84) then 4095 else (if (-4095) > n84 then (-4095) else n84))), .s x87] [.s (.int .i64 1)] m86)
 (fun _ _ => none)
 (fun vs88 m89 =>
 headK vs88 fun a93 r94 =>
 asS a93 fun x95 =>
 headK r94 fun a96 r97 =>
 asB a96 fun b98 =>
 some (.ret, [.s x95, .s (.bool b98)], m89))
 (fun d92 vs90 m91 =>
 bif Nat.beq 4 d92 then (headK vs90 fun a99 r100 =>
 asI .i64 a99 fun n101 =>
 headK r100 fun a102 r103 =>
 asS a102 fun x104 =>
 headK r103 fun a105 r106 =>
 asI .i64 a105 fun n107 =>
 headK r106 fun a108 r109 =>
 asS a108 fun x110 =>
 headK r109 fun a111 r112 =>
 asI .i64 a111 fun n113 =>
 headK r112 fun a114 r115 =>
 asI .i64 a114 fun n116 =>
 indS 1 (.s x110) n113 fun p117 =>
 storeAt 1 m91 p117 (.s (.int .i64 n116)) fun m118 =>
 (overdubref05_down [.s (.int .i64 (IntKind.wrap .i64 (n116 * n116))), .s (.int .i64 4096)] m118).bind fun r119 =>
 asI .i64 r119.1 fun n120 =>
 (overdubref05_down [.s (.int .i64 (IntKind.wrap .i64 (n120 * n107))), .s (.int .i64 4096)] r119.2).bind fun r121 =>
 asI .i64 r121.1 fun n122 =>
 some (.normal, [.s (.int .i64 (IntKind.wrap .i64 (n107 - n122))), .s (.int .i64 (IntKind.wrap .i64 (n113 + 1)))], r121.2)) else (none))) else (none))))
 else
 (some (.exit 0, [.s s11], μ)) := by rw [← G70_99]; kernel_rfl
theorem overdubref05_Coefficients_L1_eq (os vs : List AV) (μ : AMem) : overdubref05_Coefficients_L1 os vs μ = (overdubref05_Coefficients_L1_B os vs μ).bind fun r => match r.1 with | .normal => overdubref05_Coefficients_L1 os r.2.1 r.2.2 | _ => some r := loopA_eq _ _ _
theorem overdubref05_Coefficients_eq (p0 : SV) (p1 : Int) (μ : AMem) : overdubref05_Coefficients [.s p0, .s (.int .i64 p1)] μ =
 seqJ
 (bif !(decide (p1 < 1)) then
 (bif !(decide (p1 > 12)) then
 ((lenS (.s p0)).bind fun l1 =>
 some (.normal, [.s (.bool (decide (((l1 : Nat) : Int) ≤ p1)))], μ))
 else
 (some (.normal, [.s (.bool true)], μ)))
 else
 (some (.normal, [.s (.bool true)], μ)))
 (fun vs2 m3 =>
 headK vs2 fun a4 r5 =>
 asB a4 fun b6 =>
 bif b6 then
 (some (.tuple [.s .nilSlice, .s (.bool false)], m3))
 else
 ((overdubref05_Auto [.s p0, .s (.int .i64 p1)] m3).bind fun r7 =>
 extrK 0 r7.1 fun t8 =>
 asS t8 fun x9 =>
 extrK 1 r7.1 fun t10 =>
 asI .i64 t10 fun n11 =>
 bif (n11 != 0) then
 (some (.tuple [.s .nilSlice, .s (.bool false)], r7.2))
 else
 ((overdubref05_Scaled [.s x9] r7.2).bind fun r12 =>
 extrK 0 r12.1 fun t13 =>
 asS t13 fun x14 =>
 extrK 1 r12.1 fun t15 =>
 asI .i64 t15 fun n16 =>
 indS 1 (.s x14) 0 fun p17 =>
 loadAt r12.2 p17 fun v18 =>
 asI .i64 v18 fun n19 =>
 if 0 ≤ (IntKind.wrap .i64 (p1 + 1)) ∧ (IntKind.wrap .i64 (p1 + 1)) ≤ (IntKind.wrap .i64 (p1 + 1)) ∧ (IntKind.wrap .i64 (p1 + 1)) ≤ 9223372036854775807 ∧ (8 : Nat) * (IntKind.wrap .i64 (p1 + 1)) ≤ 140737488355328 then
 (seqJ (overdubref05_Coefficients_L1 [.s (.int .i64 p1), .s x14, .s (.slice (r12.2.next + 2) 0 0 (Int.toNat (IntKind.wrap .i64 (p1 + 1))))] [.s (.int .i64 n19), .s (.int .i64 1)] ((r12.2.bump 4).set (r12.2.next + 2) (rowObj (zerosA [.int .i64 0] (Int.toNat (IntKind.wrap .i64 (p1 + 1)))) 1 3 (some (Int.toNat (IntKind.wrap .i64 (p1 + 1)))))))
 (fun _ _ => none)
 (fun vs20 m21 =>
 headK vs20 fun a25 r26 =>
 asS a25 fun x27 =>
 headK r26 fun a28 r29 =>
 asB a28 fun b30 =>
 some (.tuple [.s x27, .s (.bool b30)], m21))
 (fun d24 vs22 m23 =>
 bif Nat.beq 0 d24 then (headK vs22 fun a31 r32 =>
 asS a31 fun x33 =>
 (lenS (.s x33)).bind fun l34 =>
 cutS 1 (.s x33) 1 ((l34 : Nat) : Int) fun x35 =>
 (overdubref05_MayCoefs [x35] m23).bind fun r36 =>
 asB r36.1 fun b37 =>
 bif (!b37) then
 (some (.tuple [.s .nilSlice, .s (.bool false)], r36.2))
 else
 ((lenS (.s x33)).bind fun l38 =>
 cutS 1 (.s x33) 1 ((l38 : Nat) : Int) fun x39 =>
 some (.tuple [x39, .s (.bool true)], r36.2))) else (none))) else none)))
 (fun vs40 m41 =>
 headK vs40 fun a45 r46 =>
 asS a45 fun x47 =>
 headK r46 fun a48 r49 =>
 asB a48 fun b50 =>
 some (.tuple [.s x47, .s (.bool b50)], m41))
 (fun d44 vs42 m43 =>
 none) := by rw [← G70_97, ← G70_98, ← G70_84]; kernel_rfl

noncomputable def G85 : FuncId → FunA := fun g => bif Nat.beq g 99 then overdubref05_down else fun _ _ => none
theorem G85_99 : G85 99 = overdubref05_down := by kernel_rfl
def A85 : Ann := .two (.leaf) (.two (.leaf) (.two (.two (.leaf) (.join [(5, .i .i64)] [] [] (.loop [(5, .i .i64), (6, .i .i64)] [0, 1] [0] (.two (.join [(22, .b)] [0, 1, 5, 6] [] (.leaf) (.two (.leaf) (.leaf))) (.join [(5, .i .i64)] [0, 1, 6] [] (.join [(0, .s), (1, .s), (5, .i .i64), (6, .i .i64)] [] [] (.two (.ord [0, 1, 2, 3, 4, 5, 6, 7, 8, 9, 10, 11, 12, 13]) (.two (.join [(50, .b)] [0, 1, 5, 6, 7, 8] [] (.leaf) (.two (.leaf) (.leaf))) (.leaf))) .leaf) (.leaf)))) .leaf)) (.two (.leaf) (.leaf))))
def R85 : Slots := [(4, .i .i64)]
noncomputable def overdubref05_Guess : FunA := denF Tryz.prog G85 Tryz.f85 A85 R85
noncomputable def overdubref05_Guess_L1_B (os vs : List AV) (μ : AMem) : Option Res := joinK [(5, .i .i64), (6, .i .i64)] vs (envO [0, 1] os) fun e => den Tryz.prog G85 Tryz.f85.ntmps (cL (cL (cR (cL (cR (cR (bodyOf Tryz.f85))))))) (aL (aL (aR (aL (aR (aR A85)))))) { ret := R85, exits := [(0, [(5, .i .i64)])] } Res e μ fun ex e μ => some (ex, valsOf (Lv.at { ret := R85, exits := [(0, [(5, .i .i64)])] } [(5, .i .i64), (6, .i .i64)] ex) e, μ)
noncomputable def overdubref05_Guess_L1 (os vs : List AV) (μ : AMem) : Option Res := loopA (overdubref05_Guess_L1_B os) vs μ
theorem overdubref05_Guess_L1_B_eq (s0 : SV) (s1 : SV) (s5 : Int) (s6 : Int) (μ : AMem) : overdubref05_Guess_L1_B [.s s0, .s s1] [.s (.int .i64 s5), .s (.int .i64 s6)] μ =
 seqJ
 ((lenS (.s s1)).bind fun l14 =>
 bif decide (s6 < ((l14 : Nat) : Int)) then
 ((lenS (.s s0)).bind fun l15 =>
 bif decide (s6 < ((l15 : Nat) : Int)) then
 (some (.normal, [.s (.bool (decide (s6 < 12)))], μ))
 else
 (some (.normal, [.s (.bool false)], μ)))
 else
 (some (.normal, [.s (.bool false)], μ)))
 (fun vs16 m17 =>
 headK vs16 fun a18 r19 =>
 asB a18 fun b20 =>
 bif b20 then
 (seqJ
 (indS 1 (.s s1) s6 fun p21 =>
 loadAt m17 p21 fun v22 =>
 asI .i64 v22 fun n23 =>
 (lenS (.s s0)).bind fun l24 =>
 indS 1 (.s s0) (IntKind.wrap .i64 ((IntKind.wrap .i64 (((l24 : Nat) : Int) - 1)) - s6)) fun p25 =>
 loadAt m17 p25 fun v26 =>
 asI .i64 v26 fun n27 =>
 seqJ
 (bif !(decide (n23 < (-32768))) then
 (bif !(decide (n23 > 32767)) then
 (bif !(decide (n27 < (-16777216))) then
 (some (.normal, [.s (.bool (decide (n27 > 16777216)))], m17))
 else
 (some (.normal, [.s (.bool true)], m17)))
 else
 (some (.normal, [.s (.bool true)], m17)))
 else
 (some (.normal, [.s (.bool true)], m17)))
 (fun vs28 m29 =>
 headK vs28 fun a30 r31 =>
 asB a30 fun b32 =>
 bif b32 then
 (some (.normal, [.s (.int .i64 s5)], m29))
 else
 (some (.normal, [.s (.int .i64 (IntKind.wrap .i64 (s5 + (IntKind.wrap .i64 (n23 * n27)))))], m29)))
 (fun vs33 m34 =>
 headK vs33 fun a38 r39 =>
 asI .i64 a38 fun n40 =>
 some (.ret, [.s (.int .i64 n40)], m34))
 (fun d37 vs35 m36 =>
 none))
 (fun vs41 m42 =>
 headK vs41 fun a43 r44 =>
 asI .i64 a43 fun n45 =>
 some (.normal, [.s (.int .i64 n45), .s (.int .i64 (IntKind.wrap .i64 (s6 + 1)))], m42))
 (fun vs46 m47 =>
 headK vs46 fun a51 r52 =>
 asI .i64 a51 fun n53 =>
 some (.ret, [.s (.int .i64 n53)], m47))
 (fun d50 vs48 m49 =>
 none))
 else
 (some (.exit 0, [.s (.int .i64 s5)], m17)))
 (fun vs54 m55 =>
 headK vs54 fun a59 r60 =>
 asI .i64 a59 fun n61 =>
 some (.ret, [.s (.int .i64 n61)], m55))
 (fun d58 vs56 m57 =>
 none) := by kernel_rfl
theorem overdubref05_Guess_L1_eq (os vs : List AV) (μ : AMem) : overdubref05_Guess_L1 os vs μ = (overdubref05_Guess_L1_B os vs μ).bind fun r => match r.1 with | .normal => overdubref05_Guess_L1 os r.2.1 r.2.2 | _ => some r := loopA_eq _ _ _
theorem overdubref05_Guess_eq (p0 : SV) (p1 : SV) (μ : AMem) : overdubref05_Guess [.s p0, .s p1] μ =
 seqJ (overdubref05_Guess_L1 [.s p0, .s p1] [.s (.int .i64 0), .s (.int .i64 0)] μ)
 (fun _ _ => none)
 (fun vs1 m2 =>
 headK vs1 fun a6 r7 =>
 asI .i64 a6 fun n8 =>
 some (.s (.int .i64 n8), m2))
 (fun d5 vs3 m4 =>
 bif Nat.beq 0 d5 then (headK vs3 fun a9 r10 =>
 asI .i64 a9 fun n11 =>
 (overdubref05_down [.s (.int .i64 n11), .s (.int .i64 4096)] m4).bind fun r12 =>
 asI .i64 r12.1 fun n13 =>
 some (.s (.int .i64 n13), r12.2)) else (none)) := by rw [← G85_99]; kernel_rfl

noncomputable def G71 : FuncId → FunA := fun g => bif Nat.beq g 84 then overdubref05_MayCoefs else bif Nat.beq g 41 then overdubref05_May else bif Nat.beq g 85 then overdubref05_Guess else fun _ _ => none
theorem G71_84 : G71 84 = overdubref05_MayCoefs := by kernel_rfl
theorem G71_41 : G71 41 = overdubref05_May := by kernel_rfl
theorem G71_85 : G71 85 = overdubref05_Guess := by kernel_rfl
def A71 : Ann := .two (.leaf) (.two (.join [(18, .b)] [0, 1] [] (.leaf) (.two (.two (.leaf) (.leaf)) (.leaf))) (.two (.two (.leaf) (.two (.leaf) (.two (.two (.leaf) (.leaf)) (.leaf)))) (.two (.leaf) (.two (.two (.leaf) (.join [(7, .s)] [] [] (.loop [(7, .s), (8, .i .i64)] [0, 1] [0] (.two (.two (.leaf) (.two (.leaf) (.leaf))) (.two (.join [(0, .s), (1, .s), (7, .s), (8, .i .i64)] [] [] (.ord [0, 1, 2, 3, 4, 5, 6, 7, 8, 9, 10, 11, 12, 13]) .leaf) (.leaf)))) .leaf)) (.two (.leaf) (.leaf))))))
def R71 : Slots := [(4, .s), (5, .i .i64)]
noncomputable def overdubref05_LpcResidual : FunA := denF Tryz.prog G71 Tryz.f71 A71 R71
noncomputable def overdubref05_LpcResidual_L1_B (os vs : List AV) (μ : AMem) : Option Res := joinK [(7, .s), (8, .i .i64)] vs (envO [0, 1] os) fun e => den Tryz.prog G71 Tryz.f71.ntmps (cL (cL (cR (cL (cR (cR (cR (cR (bodyOf Tryz.f71))))))))) (aL (aL (aR (aL (aR (aR (aR (aR A71)))))))) { ret := R71, exits := [(0, [(7, .s)])] } Res e μ fun ex e μ => some (ex, valsOf (Lv.at { ret := R71, exits := [(0, [(7, .s)])] } [(7, .s), (8, .i .i64)] ex) e, μ)
noncomputable def overdubref05_LpcResidual_L1 (os vs : List AV) (μ : AMem) : Option Res := loopA (overdubref05_LpcResidual_L1_B os) vs μ
theorem overdubref05_LpcResidual_L1_B_eq (s0 : SV) (s1 : SV) (s7 : SV) (s8 : Int) (μ : AMem) : overdubref05_LpcResidual_L1_B [.s s0, .s s1] [.s s7, .s (.int .i64 s8)] μ =
 (lenS (.s s0)).bind fun l38 =>
 bif decide (s8 < ((l38 : Nat) : Int)) then
 (indS 1 (.s s0) s8 fun p39 =>
 loadAt (μ.bump 14) p39 fun v40 =>
 asI .i64 v40 fun n41 =>
 cutS 1 (.s s0) 0 s8 fun x42 =>
 (overdubref05_Guess [x42, .s s1] (μ.bump 14)).bind fun r43 =>
 asI .i64 r43.1 fun n44 =>
 checkA ((loadAt r43.2 p39 some) = some (.s (.int .i64 n41)))
 (checkA (r43.2.obj (μ.next + 11) = none)
 (appendA 3 1 8 (μ.next + 12) (r43.2.set (μ.next + 11) (rowObj [.int .i64 (IntKind.wrap .i64 (n41 - n44))] 1 3 (some 1))) (.s s7) (.s (.slice (μ.next + 11) 0 0 1)) fun x45 m46 =>
 asS x45 fun x47 =>
 some (.normal, [.s x47, .s (.int .i64 (IntKind.wrap .i64 (s8 + 1)))], m46))))
 else
 (some (.exit 0, [.s s7], μ)) := by rw [← G71_85]; kernel_rfl
theorem overdubref05_LpcResidual_L1_eq (os vs : List AV) (μ : AMem) : overdubref05_LpcResidual_L1 os vs μ = (overdubref05_LpcResidual_L1_B os vs μ).bind fun r => match r.1 with | .normal => overdubref05_LpcResidual_L1 os r.2.1 r.2.2 | _ => some r := loopA_eq _ _ _
theorem overdubref05_LpcResidual_eq (p0 : SV) (p1 : SV) (μ : AMem) : overdubref05_LpcResidual [.s p0, .s p1] μ =
 seqJ
 ((overdubref05_MayCoefs [.s p1] μ).bind fun r1 =>
 asB r1.1 fun b2 =>
 bif !(!b2) then
 ((lenS (.s p0)).bind fun l3 =>
 (lenS (.s p1)).bind fun l4 =>
 some (.normal, [.s (.bool (decide (((l3 : Nat) : Int) < ((l4 : Nat) : Int))))], r1.2))
 else
 (some (.normal, [.s (.bool true)], r1.2)))
 (fun vs5 m6 =>
 headK vs5 fun a7 r8 =>
 asB a7 fun b9 =>
 bif b9 then
 (some (.tuple [.s .nilSlice, .s (.int .i64 1)], m6))
 else
 ((overdubref05_May [.s p0] m6).bind fun r10 =>
 asI .i64 r10.1 fun n11 =>
 bif (n11 != 0) then
 (some (.tuple [.s .nilSlice, .s (.int .i64 n11)], r10.2))
 else
 ((lenS (.s p1)).bind fun l12 =>
 seqJ (overdubref05_LpcResidual_L1 [.s p0, .s p1] [.s .nilSlice, .s (.int .i64 ((l12 : Nat) : Int))] r10.2)
 (fun _ _ => none)
 (fun vs13 m14 =>
 headK vs13 fun a18 r19 =>
 asS a18 fun x20 =>
 headK r19 fun a21 r22 =>
 asI .i64 a21 fun n23 =>
 some (.tuple [.s x20, .s (.int .i64 n23)], m14))
 (fun d17 vs15 m16 =>
 bif Nat.beq 0 d17 then (headK vs15 fun a24 r25 =>
 asS a24 fun x26 =>
 some (.tuple [.s x26, .s (.int .i64 0)], m16)) else (none)))))
 (fun vs27 m28 =>
 headK vs27 fun a32 r33 =>
 asS a32 fun x34 =>
 headK r33 fun a35 r36 =>
 asI .i64 a35 fun n37 =>
 some (.tuple [.s x34, .s (.int .i64 n37)], m28))
 (fun d31 vs29 m30 =>
 none) := by rw [← G71_84, ← G71_41]; kernel_rfl

noncomputable def G42 : FuncId → FunA := fun g => bif Nat.beq g 41 then overdubref05_May else bif Nat.beq g 66 then overdubref01_Bits_Put else bif Nat.beq g 67 then overdubref05_sample else bif Nat.beq g 68 then overdubref05_Residual else bif Nat.beq g 69 then overdubref05_residuals else bif Nat.beq g 70 then overdubref05_Coefficients else bif Nat.beq g 71 then overdubref05_LpcResidual else fun _ _ => none
theorem G42_41 : G42 41 = overdubref05_May := by kernel_rfl
theorem G42_66 : G42 66 = overdubref01_Bits_Put := by kernel_rfl
theorem G42_67 : G42 67 = overdubref05_sample := by kernel_rfl
theorem G42_68 : G42 68 = overdubref05_Residual := by kernel_rfl
theorem G42_69 : G42 69 = overdubref05_residuals := by kernel_rfl
theorem G42_70 : G42 70 = overdubref05_Coefficients := by kernel_rfl
theorem G42_71 : G42 71 = overdubref05_LpcResidual := by kernel_rfl
def A42 : Ann := .two (.leaf) (.two (.join [(34, .b)] [0, 1] [] (.leaf) (.two (.two (.leaf) (.leaf)) (.leaf))) (.two (.leaf) (.two (.leaf) (.two (.join [(0, .i .i64), (1, .s), (6, .s)] [] [] (.two (.leaf) (.two (.two (.two (.leaf) (.join [(1, .s), (6, .s)] [] [] (.loop [(52, .i .i64)] [1, 6, 51] [1] (.two (.leaf) (.two (.two (.leaf) (.leaf)) (.two (.join [(1, .s), (6, .s), (51, .i .i64), (52, .i .i64)] [] [] (.two (.leaf) (.two (.ord [0, 1, 2, 3, 4, 5, 6, 7]) (.two (.two (.leaf) (.leaf)) (.leaf)))) .leaf) (.leaf))))) .leaf)) (.two (.leaf) (.leaf))) (.two (.leaf) (.two (.two (.two (.leaf) (.join [(6, .s)] [] [] (.loop [(6, .s), (74, .i .i64)] [1, 73] [3] (.two (.leaf) (.two (.two (.leaf) (.leaf)) (.two (.join [(1, .s), (6, .s), (73, .i .i64), (74, .i .i64)] [] [] (.two (.leaf) (.leaf)) .leaf) (.leaf))))) .leaf)) (.two (.leaf) (.leaf))) (.two (.leaf) (.two (.two (.leaf) (.two (.two (.leaf) (.two (.two (.leaf) (.leaf)) (.leaf))) (.two (.two (.leaf) (.join [(6, .s), (10, .s)] [] [] (.loop [(6, .s), (12, .i .i64)] [0, 1, 10] [5] (.two (.two (.leaf) (.two (.leaf) (.leaf))) (.two (.join [(0, .i .i64), (1, .s), (6, .s), (10, .s), (12, .i .i64)] [] [] (.leaf) .leaf) (.leaf)))) .leaf)) (.two (.leaf) (.leaf))))) (.leaf))))))) .leaf) (.two (.leaf) (.two (.two (.leaf) (.two (.two (.leaf) (.leaf)) (.leaf))) (.two (.leaf) (.two (.two (.leaf) (.join [(6, .s), (13, .s), (15, .s)] [] [] (.loop [(6, .s), (131, .i .i64)] [1, 13, 15, 130] [7] (.two (.leaf) (.two (.two (.leaf) (.leaf)) (.two (.join [(1, .s), (6, .s), (13, .s), (15, .s), (130, .i .i64), (131, .i .i64)] [] [] (.two (.leaf) (.leaf)) .leaf) (.leaf))))) .leaf)) (.two (.two (.leaf) (.join [(6, .s), (15, .s)] [] [] (.loop [(6, .s), (143, .i .i64)] [13, 15, 142] [9] (.two (.leaf) (.two (.two (.leaf) (.leaf)) (.two (.join [(6, .s), (13, .s), (15, .s), (142, .i .i64), (143, .i .i64)] [] [] (.two (.leaf) (.leaf)) .leaf) (.leaf))))) .leaf)) (.two (.leaf) (.leaf)))))))))))
def R42 : Slots := [(4, .s), (5, .b)]
noncomputable def overdubref05_digits : FunA := denF Tryz.prog G42 Tryz.f42 A42 R42
noncomputable def overdubref05_digits_L5_B (os vs : List AV) (μ : AMem) : Option Res := joinK [(6, .s), (143, .i .i64)] vs (envO [13, 15, 142] os) fun e => den Tryz.prog G42 Tryz.f42.ntmps (cL (cL (cR (cL (cR (cR (cR (cR (cR (cR (cR (cR (cR (bodyOf Tryz.f42)))))))))))))) (aL (aL (aR (aL (aR (aR (aR (aR (aR (aR (aR (aR (aR A42))))))))))))) { ret := R42, exits := [(9, [(6, .s), (15, .s)])] } Res e μ fun ex e μ => some (ex, valsOf (Lv.at { ret := R42, exits := [(9, [(6, .s), (15, .s)])] } [(6, .s), (143, .i .i64)] ex) e, μ)
noncomputable def overdubref05_digits_L5 (os vs : List AV) (μ : AMem) : Option Res := loopA (overdubref05_digits_L5_B os) vs μ
noncomputable def overdubref05_digits_L4_B (os vs : List AV) (μ : AMem) : Option Res := joinK [(6, .s), (131, .i .i64)] vs (envO [1, 13, 15, 130] os) fun e => den Tryz.prog G42 Tryz.f42.ntmps (cL (cL (cR (cL (cR (cR (cR (cR (cR (cR (cR (cR (bodyOf Tryz.f42))))))))))))) (aL (aL (aR (aL (aR (aR (aR (aR (aR (aR (aR (aR A42)))))))))))) { ret := R42, exits := [(7, [(6, .s), (13, .s), (15, .s)])] } Res e μ fun ex e μ => some (ex, valsOf (Lv.at { ret := R42, exits := [(7, [(6, .s), (13, .s), (15, .s)])] } [(6, .s), (131, .i .i64)] ex) e, μ)
noncomputable def overdubref05_digits_L4 (os vs : List AV) (μ : AMem) : Option Res := loopA (overdubref05_digits_L4_B os) vs μ
noncomputable def overdubref05_digits_L3_B (os vs : List AV) (μ : AMem) : Option Res := joinK [(6, .s), (12, .i .i64)] vs (envO [0, 1, 10] os) fun e => den Tryz.prog G42 Tryz.f42.ntmps (cL (cL (cR (cL (cR (cR (cL (cR (cR (cR (cR (cR (cL (cL (cR (cR (cR (cR (bodyOf Tryz.f42))))))))))))))))))) (aL (aL (aR (aL (aR (aR (aL (aR (aR (aR (aR (aR (aL (aL (aR (aR (aR (aR A42)))))))))))))))))) { ret := R42, exits := [(5, [(6, .s), (10, .s)]), (0, [(0, .i .i64), (1, .s), (6, .s)])] } Res e μ fun ex e μ => some (ex, valsOf (Lv.at { ret := R42, exits := [(5, [(6, .s), (10, .s)]), (0, [(0, .i .i64), (1, .s), (6, .s)])] } [(6, .s), (12, .i .i64)] ex) e, μ)
noncomputable def overdubref05_digits_L3 (os vs : List AV) (μ : AMem) : Option Res := loopA (overdubref05_digits_L3_B os) vs μ
noncomputable def overdubref05_digits_L2_B (os vs : List AV) (μ : AMem) : Option Res := joinK [(6, .s), (74, .i .i64)] vs (envO [1, 73] os) fun e => den Tryz.prog G42 Tryz.f42.ntmps (cL (cL (cR (cL (cL (cR (cR (cR (cL (cL (cR (cR (cR (cR (bodyOf Tryz.f42))))))))))))))) (aL (aL (aR (aL (aL (aR (aR (aR (aL (aL (aR (aR (aR (aR A42)))))))))))))) { ret := R42, exits := [(3, [(6, .s)]), (0, [(0, .i .i64), (1, .s), (6, .s)])] } Res e μ fun ex e μ => some (ex, valsOf (Lv.at { ret := R42, exits := [(3, [(6, .s)]), (0, [(0, .i .i64), (1, .s), (6, .s)])] } [(6, .s), (74, .i .i64)] ex) e, μ)
noncomputable def overdubref05_digits_L2 (os vs : List AV) (μ : AMem) : Option Res := loopA (overdubref05_digits_L2_B os) vs μ
noncomputable def overdubref05_digits_L1_B (os vs : List AV) (μ : AMem) : Option Res := joinK [(52, .i .i64)] vs (envO [1, 6, 51] os) fun e => den Tryz.prog G42 Tryz.f42.ntmps (cL (cL (cR (cL (cL (cR (cL (cL (cR (cR (cR (cR (bodyOf Tryz.f42))))))))))))) (aL (aL (aR (aL (aL (aR (aL (aL (aR (aR (aR (aR A42)))))))))))) { ret := R42, exits := [(1, [(1, .s), (6, .s)]), (0, [(0, .i .i64), (1, .s), (6, .s)])] } Res e μ fun ex e μ => some (ex, valsOf (Lv.at { ret := R42, exits := [(1, [(1, .s), (6, .s)]), (0, [(0, .i .i64), (1, .s), (6, .s)])] } [(52, .i .i64)] ex) e, μ)
noncomputable def overdubref05_digits_L1 (os vs : List AV) (μ : AMem) : Option Res := loopA (overdubref05_digits_L1_B os) vs μ
theorem overdubref05_digits_L5_B_eq (s13 : SV) (s15 : SV) (s142 : Int) (s6 : SV) (s143 : Int) (μ : AMem) : overdubref05_digits_L5_B [.s s13, .s s15, .s (.int .i64 s142)] [.s s6, .s (.int .i64 s143)] μ =
 bif decide (s143 < s142) then
 (indS 1 (.s s13) s143 fun p171 =>
 loadAt μ p171 fun v172 =>
 asI .i64 v172 fun n173 =>
 (overdubref01_Bits_Put [.s s6, .s (.int .i64 (IntKind.wrap .i64 (n173 + 32768))), .s (.int .i64 16)] μ).bind fun r174 =>
 extrK 0 r174.1 fun t175 =>
 asS t175 fun x176 =>
 extrK 1 r174.1 fun t177 =>
 asB t177 fun b178 =>
 some (.normal, [.s x176, .s (.int .i64 (IntKind.wrap .i64 (s143 + 1)))], r174.2))
 else
 (some (.exit 9, [.s s6, .s s15], μ)) := by rw [← G42_66]; kernel_rfl
theorem overdubref05_digits_L5_eq (os vs : List AV) (μ : AMem) : overdubref05_digits_L5 os vs μ = (overdubref05_digits_L5_B os vs μ).bind fun r => match r.1 with | .normal => overdubref05_digits_L5 os r.2.1 r.2.2 | _ => some r := loopA_eq _ _ _
theorem overdubref05_digits_L4_B_eq (s1 : SV) (s13 : SV) (s15 : SV) (s130 : Int) (s6 : SV) (s131 : Int) (μ : AMem) : overdubref05_digits_L4_B [.s s1, .s s13, .s s15, .s (.int .i64 s130)] [.s s6, .s (.int .i64 s131)] μ =
 bif decide (s131 < s130) then
 (indS 1 (.s s1) s131 fun p166 =>
 loadAt μ p166 fun v167 =>
 asI .i64 v167 fun n168 =>
 (overdubref05_sample [.s s6, .s (.int .i64 n168)] μ).bind fun r169 =>
 asS r169.1 fun x170 =>
 some (.normal, [.s x170, .s (.int .i64 (IntKind.wrap .i64 (s131 + 1)))], r169.2))
 else
 (some (.exit 7, [.s s6, .s s13, .s s15], μ)) := by rw [← G42_67]; kernel_rfl
theorem overdubref05_digits_L4_eq (os vs : List AV) (μ : AMem) : overdubref05_digits_L4 os vs μ = (overdubref05_digits_L4_B os vs μ).bind fun r => match r.1 with | .normal => overdubref05_digits_L4 os r.2.1 r.2.2 | _ => some r := loopA_eq _ _ _
theorem overdubref05_digits_L3_B_eq (s0 : Int) (s1 : SV) (s10 : SV) (s6 : SV) (s12 : Int) (μ : AMem) : overdubref05_digits_L3_B [.s (.int .i64 s0), .s s1, .s s10] [.s s6, .s (.int .i64 s12)] μ =
 bif decide (s12 < (IntKind.wrap .i64 (s0 - 2))) then
 (indS 1 (.s s1) s12 fun p161 =>
 loadAt μ p161 fun v162 =>
 asI .i64 v162 fun n163 =>
 (overdubref05_sample [.s s6, .s (.int .i64 n163)] μ).bind fun r164 =>
 asS r164.1 fun x165 =>
 some (.normal, [.s x165, .s (.int .i64 (IntKind.wrap .i64 (s12 + 1)))], r164.2))
 else
 (some (.exit 5, [.s s6, .s s10], μ)) := by rw [← G42_67]; kernel_rfl
theorem overdubref05_digits_L3_eq (os vs : List AV) (μ : AMem) : overdubref05_digits_L3 os vs μ = (overdubref05_digits_L3_B os vs μ).bind fun r => match r.1 with | .normal => overdubref05_digits_L3 os r.2.1 r.2.2 | _ => some r := loopA_eq _ _ _
theorem overdubref05_digits_L2_B_eq (s1 : SV) (s73 : Int) (s6 : SV) (s74 : Int) (μ : AMem) : overdubref05_digits_L2_B [.s s1, .s (.int .i64 s73)] [.s s6, .s (.int .i64 s74)] μ =
 bif decide (s74 < s73) then
 (indS 1 (.s s1) s74 fun p156 =>
 loadAt μ p156 fun v157 =>
 asI .i64 v157 fun n158 =>
 (overdubref05_sample [.s s6, .s (.int .i64 n158)] μ).bind fun r159 =>
 asS r159.1 fun x160 =>
 some (.normal, [.s x160, .s (.int .i64 (IntKind.wrap .i64 (s74 + 1)))], r159.2))
 else
 (some (.exit 3, [.s s6], μ)) := by rw [← G42_67]; kernel_rfl
theorem overdubref05_digits_L2_eq (os vs : List AV) (μ : AMem) : overdubref05_digits_L2 os vs μ = (overdubref05_digits_L2_B os vs μ).bind fun r => match r.1 with | .normal => overdubref05_digits_L2 os r.2.1 r.2.2 | _ => some r := loopA_eq _ _ _
theorem overdubref05_digits_L1_B_eq (s1 : SV) (s6 : SV) (s51 : Int) (s52 : Int) (μ : AMem) : overdubref05_digits_L1_B [.s s1, .s s6, .s (.int .i64 s51)] [.s (.int .i64 s52)] μ =
 bif decide (s52 < s51) then
 (indS 1 (.s s1) s52 fun p150 =>
 loadAt μ p150 fun v151 =>
 asI .i64 v151 fun n152 =>
 indS 1 (.s s1) 0 fun p153 =>
 loadAt μ p153 fun v154 =>
 asI .i64 v154 fun n155 =>
 bif (n152 != n155) then
 (some (.ret, [.s .nilSlice, .s (.bool false)], μ))
 else
 (some (.normal, [.s (.int .i64 (IntKind.wrap .i64 (s52 + 1)))], μ)))
 else
 (some (.exit 1, [.s s1, .s s6], μ)) := by kernel_rfl
theorem overdubref05_digits_L1_eq (os vs : List AV) (μ : AMem) : overdubref05_digits_L1 os vs μ = (overdubref05_digits_L1_B os vs μ).bind fun r => match r.1 with | .normal => overdubref05_digits_L1 os r.2.1 r.2.2 | _ => some r := loopA_eq _ _ _
theorem overdubref05_digits_eq (p0 : Int) (p1 : SV) (μ : AMem) : overdubref05_digits [.s (.int .i64 p0), .s p1] μ =
 seqJ
 ((lenS (.s p1)).bind fun l1 =>
 bif !(decide (((l1 : Nat) : Int) < 1)) then
 ((overdubref05_May [.s p1] μ).bind fun r2 =>
 asI .i64 r2.1 fun n3 =>
 bif !(n3 != 0) then
 (bif !(decide (p0 < 0)) then
 (some (.normal, [.s (.bool (decide (p0 > 18)))], r2.2))
 else
 (some (.normal, [.s (.bool true)], r2.2)))
 else
 (some (.normal, [.s (.bool true)], r2.2)))
 else
 (some (.normal, [.s (.bool true)], μ)))
 (fun vs4 m5 =>
 headK vs4 fun a6 r7 =>
 asB a6 fun b8 =>
 bif b8 then
 (some (.tuple [.s .nilSlice, .s (.bool false)], m5))
 else
 ((overdubref01_Bits_Put [.s .nilSlice, .s (.int .i64 p0), .s (.int .i64 8)] m5).bind fun r9 =>
 extrK 0 r9.1 fun t10 =>
 asS t10 fun x11 =>
 extrK 1 r9.1 fun t12 =>
 asB t12 fun b13 =>
 (lenS (.s p1)).bind fun l14 =>
 (overdubref01_Bits_Put [.s x11, .s (.int .i64 ((l14 : Nat) : Int)), .s (.int .i64 8)] r9.2).bind fun r15 =>
 extrK 0 r15.1 fun t16 =>
 asS t16 fun x17 =>
 extrK 1 r15.1 fun t18 =>
 asB t18 fun b19 =>
 bif (p0 == 0) then
 ((lenS (.s p1)).bind fun l20 =>
 seqJ (overdubref05_digits_L1 [.s p1, .s x17, .s (.int .i64 ((l20 : Nat) : Int))] [.s (.int .i64 0)] r15.2)
 (fun _ _ => none)
 (fun vs21 m22 =>
 headK vs21 fun a26 r27 =>
 asS a26 fun x28 =>
 headK r27 fun a29 r30 =>
 asB a29 fun b31 =>
 some (.tuple [.s x28, .s (.bool b31)], m22))
 (fun d25 vs23 m24 =>
 bif Nat.beq 1 d25 then (headK vs23 fun a32 r33 =>
 asS a32 fun x34 =>
 headK r33 fun a35 r36 =>
 asS a35 fun x37 =>
 indS 1 (.s x34) 0 fun p38 =>
 loadAt m24 p38 fun v39 =>
 asI .i64 v39 fun n40 =>
 (overdubref05_sample [.s x37, .s (.int .i64 n40)] m24).bind fun r41 =>
 asS r41.1 fun x42 =>
 some (.tuple [.s x42, .s (.bool true)], r41.2)) else (none)))
 else
 (bif (p0 == 1) then
 ((lenS (.s p1)).bind fun l43 =>
 seqJ (overdubref05_digits_L2 [.s p1, .s (.int .i64 ((l43 : Nat) : Int))] [.s x17, .s (.int .i64 0)] r15.2)
 (fun _ _ => none)
 (fun vs44 m45 =>
 headK vs44 fun a49 r50 =>
 asS a49 fun x51 =>
 headK r50 fun a52 r53 =>
 asB a52 fun b54 =>
 some (.tuple [.s x51, .s (.bool b54)], m45))
 (fun d48 vs46 m47 =>
 bif Nat.beq 3 d48 then (headK vs46 fun a55 r56 =>
 asS a55 fun x57 =>
 some (.tuple [.s x57, .s (.bool true)], m47)) else (none)))
 else
 (bif decide (p0 ≤ 6) then
 ((overdubref05_Residual [.s p1, .s (.int .i64 (IntKind.wrap .i64 (p0 - 2)))] r15.2).bind fun r58 =>
 extrK 0 r58.1 fun t59 =>
 asS t59 fun x60 =>
 extrK 1 r58.1 fun t61 =>
 asI .i64 t61 fun n62 =>
 bif (n62 != 0) then
 (some (.tuple [.s .nilSlice, .s (.bool false)], r58.2))
 else
 (seqJ (overdubref05_digits_L3 [.s (.int .i64 p0), .s p1, .s x60] [.s x17, .s (.int .i64 0)] r58.2)
 (fun _ _ => none)
 (fun vs63 m64 =>
 headK vs63 fun a68 r69 =>
 asS a68 fun x70 =>
 headK r69 fun a71 r72 =>
 asB a71 fun b73 =>
 some (.tuple [.s x70, .s (.bool b73)], m64))
 (fun d67 vs65 m66 =>
 bif Nat.beq 5 d67 then (headK vs65 fun a74 r75 =>
 asS a74 fun x76 =>
 headK r75 fun a77 r78 =>
 asS a77 fun x79 =>
 (overdubref05_residuals [.s x76, .s x79] m66).bind fun r80 =>
 extrK 0 r80.1 fun t81 =>
 asS t81 fun x82 =>
 extrK 1 r80.1 fun t83 =>
 asB t83 fun b84 =>
 some (.tuple [.s x82, .s (.bool b84)], r80.2)) else (none))))
 else
 ((overdubref05_Coefficients [.s p1, .s (.int .i64 (IntKind.wrap .i64 (p0 - 6)))] r15.2).bind fun r85 =>
 extrK 0 r85.1 fun t86 =>
 asS t86 fun x87 =>
 extrK 1 r85.1 fun t88 =>
 asB t88 fun b89 =>
 bif (!b89) then
 (some (.tuple [.s .nilSlice, .s (.bool false)], r85.2))
 else
 ((overdubref05_LpcResidual [.s p1, .s x87] r85.2).bind fun r90 =>
 extrK 0 r90.1 fun t91 =>
 asS t91 fun x92 =>
 extrK 1 r90.1 fun t93 =>
 asI .i64 t93 fun n94 =>
 (lenS (.s x87)).bind fun l95 =>
 seqJ (overdubref05_digits_L4 [.s p1, .s x87, .s x92, .s (.int .i64 ((l95 : Nat) : Int))] [.s x17, .s (.int .i64 0)] r90.2)
 (fun _ _ => none)
 (fun vs96 m97 =>
 headK vs96 fun a101 r102 =>
 asS a101 fun x103 =>
 headK r102 fun a104 r105 =>
 asB a104 fun b106 =>
 some (.tuple [.s x103, .s (.bool b106)], m97))
 (fun d100 vs98 m99 =>
 bif Nat.beq 7 d100 then (headK vs98 fun a107 r108 =>
 asS a107 fun x109 =>
 headK r108 fun a110 r111 =>
 asS a110 fun x112 =>
 headK r111 fun a113 r114 =>
 asS a113 fun x115 =>
 (lenS (.s x112)).bind fun l116 =>
 seqJ (overdubref05_digits_L5 [.s x112, .s x115, .s (.int .i64 ((l116 : Nat) : Int))] [.s x109, .s (.int .i64 0)] m99)
 (fun _ _ => none)
 (fun vs117 m118 =>
 headK vs117 fun a122 r123 =>
 asS a122 fun x124 =>
 headK r123 fun a125 r126 =>
 asB a125 fun b127 =>
 some (.tuple [.s x124, .s (.bool b127)], m118))
 (fun d121 vs119 m120 =>
 bif Nat.beq 9 d121 then (headK vs119 fun a128 r129 =>
 asS a128 fun x130 =>
 headK r129 fun a131 r132 =>
 asS a131 fun x133 =>
 (overdubref05_residuals [.s x130, .s x133] m120).bind fun r134 =>
 extrK 0 r134.1 fun t135 =>
 asS t135 fun x136 =>
 extrK 1 r134.1 fun t137 =>
 asB t137 fun b138 =>
 some (.tuple [.s x136, .s (.bool b138)], r134.2)) else (none))) else (none))))))))
 (fun vs139 m140 =>
 headK vs139 fun a144 r145 =>
 asS a144 fun x146 =>
 headK r145 fun a147 r148 =>
 asB a147 fun b149 =>
 some (.tuple [.s x146, .s (.bool b149)], m140))
 (fun d143 vs141 m142 =>
 none) := by rw [← G42_41, ← G42_66, ← G42_67, ← G42_68, ← G42_69, ← G42_70, ← G42_71]; kernel_rfl

noncomputable def G43 : FuncId → FunA := fun _ _ _ => none
def A43 : Ann := .two (.leaf) (.two (.leaf) (.two (.two (.leaf) (.join [(3, .s)] [] [] (.loop [(12, .i .i64)] [0, 3, 11] [0] (.two (.leaf) (.two (.two (.leaf) (.leaf)) (.two (.join [(0, .s), (3, .s), (11, .i .i64), (12, .i .i64)] [] [] (.two (.leaf) (.ord [0, 1, 2, 3, 4, 5, 6, 7, 8, 9, 10, 11, 12, 13, 14, 15, 16])) .leaf) (.leaf))))) .leaf)) (.two (.leaf) (.leaf))))
def R43 : Slots := [(2, .s)]
noncomputable def overdubref01_Bits_Bytes : FunA := denF Tryz.prog G43 Tryz.f43 A43 R43
noncomputable def overdubref01_Bits_Bytes_L1_B (os vs : List AV) (μ : AMem) : Option Res := joinK [(12, .i .i64)] vs (envO [0, 3, 11] os) fun e => den Tryz.prog G43 Tryz.f43.ntmps (cL (cL (cR (cL (cR (cR (bodyOf Tryz.f43))))))) (aL (aL (aR (aL (aR (aR A43)))))) { ret := R43, exits := [(0, [(3, .s)])] } Res e μ fun ex e μ => some (ex, valsOf (Lv.at { ret := R43, exits := [(0, [(3, .s)])] } [(12, .i .i64)] ex) e, μ)
noncomputable def overdubref01_Bits_Bytes_L1 (os vs : List AV) (μ : AMem) : Option Res := loopA (overdubref01_Bits_Bytes_L1_B os) vs μ
theorem overdubref01_Bits_Bytes_L1_B_eq (s0 : SV) (s3 : SV) (s11 : Int) (s12 : Int) (μ : AMem) : overdubref01_Bits_Bytes_L1_B [.s s0, .s s3, .s (.int .i64 s11)] [.s (.int .i64 s12)] μ =
 bif decide (s12 < s11) then
 (indS 1 (.s s3) (IntKind.wrap .i64 (Int.tdiv s12 8)) fun p14 =>
 loadAt μ p14 fun v15 =>
 asI .u8 v15 fun n16 =>
 indS 1 (.s s0) s12 fun p17 =>
 loadAt μ p17 fun v18 =>
 asI .u8 v18 fun n19 =>
 if (IntKind.wrap .u64 (IntKind.wrap .i64 (7 - (Int.tmod s12 8)))) < 0 then none else
 (indS 1 (.s s3) (IntKind.wrap .i64 (Int.tdiv s12 8)) fun p20 =>
 storeAt 1 μ p20 (.s (.int .u8 (IntKind.wrap .u8 (BitVec.toNat ((BitVec.ofInt (IntKind.bits .u8) n16) ||| (BitVec.ofInt (IntKind.bits .u8) (IntKind.wrap .u8 (n19 * 2 ^ (min (Int.toNat (IntKind.wrap .u64 (IntKind.wrap .i64 (7 - (Int.tmod s12 8))))) (IntKind.bits .u8)))))))))) fun m21 =>
 some (.normal, [.s (.int .i64 (IntKind.wrap .i64 (s12 + 1)))], m21)))
 else
 (some (.exit 0, [.s s3], μ)) := by kernel_rfl
theorem overdubref01_Bits_Bytes_L1_eq (os vs : List AV) (μ : AMem) : overdubref01_Bits_Bytes_L1 os vs μ = (overdubref01_Bits_Bytes_L1_B os vs μ).bind fun r => match r.1 with | .normal => overdubref01_Bits_Bytes_L1 os r.2.1 r.2.2 | _ => some r := loopA_eq _ _ _
theorem overdubref01_Bits_Bytes_eq (p0 : SV) (μ : AMem) : overdubref01_Bits_Bytes [.s p0] μ =
 (lenS (.s p0)).bind fun l1 =>
 if 0 ≤ (IntKind.wrap .i64 (Int.tdiv (IntKind.wrap .i64 (((l1 : Nat) : Int) + 7)) 8)) ∧ (IntKind.wrap .i64 (Int.tdiv (IntKind.wrap .i64 (((l1 : Nat) : Int) + 7)) 8)) ≤ (IntKind.wrap .i64 (Int.tdiv (IntKind.wrap .i64 (((l1 : Nat) : Int) + 7)) 8)) ∧ (IntKind.wrap .i64 (Int.tdiv (IntKind.wrap .i64 (((l1 : Nat) : Int) + 7)) 8)) ≤ 9223372036854775807 ∧ (1 : Nat) * (IntKind.wrap .i64 (Int.tdiv (IntKind.wrap .i64 (((l1 : Nat) : Int) + 7)) 8)) ≤ 140737488355328 then
 ((lenS (.s p0)).bind fun l2 =>
 seqJ (overdubref01_Bits_Bytes_L1 [.s p0, .s (.slice (μ.next + 4) 0 0 (Int.toNat (IntKind.wrap .i64 (Int.tdiv (IntKind.wrap .i64 (((l1 : Nat) : Int) + 7)) 8)))), .s (.int .i64 ((l2 : Nat) : Int))] [.s (.int .i64 0)] ((μ.bump 6).set (μ.next + 4) (rowObj (zerosA [.int .u8 0] (Int.toNat (IntKind.wrap .i64 (Int.tdiv (IntKind.wrap .i64 (((l1 : Nat) : Int) + 7)) 8)))) 1 5 (some (Int.toNat (IntKind.wrap .i64 (Int.tdiv (IntKind.wrap .i64 (((l1 : Nat) : Int) + 7)) 8)))))))
 (fun _ _ => none)
 (fun vs3 m4 =>
 headK vs3 fun a8 r9 =>
 asS a8 fun x10 =>
 some (.s x10, m4))
 (fun d7 vs5 m6 =>
 bif Nat.beq 0 d7 then (headK vs5 fun a11 r12 =>
 asS a11 fun x13 =>
 some (.s x13, m6)) else (none))) else none := by kernel_rfl

end Go.Proofs.YtnjenjbodcihmaaGreat
