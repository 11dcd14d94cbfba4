/- The Go functions as plain functions. -/
import Derived.Test.YtnjenjbodcihmaaGreatZfa
namespace Go.Proofs.YtnjenjbodcihmaaGreat
open Go Go.Proofs.YtnjenjbodcihmaaGreat.E
set_option maxRecDepth 100000
set_option linter.unusedVariables false
noncomputable def G28 : FuncId → FunA := fun g => bif Nat.beq g 41 then overdubref05_May else bif Nat.beq g 42 then overdubref05_digits else bif Nat.beq g 43 then overdubref01_Bits_Bytes else fun _ _ => none
theorem G28_41 : G28 41 = overdubref05_May := by kernel_rfl
theorem G28_42 : G28 42 = overdubref05_digits := by kernel_rfl
theorem G28_43 : G28 43 = overdubref01_Bits_Bytes := by kernel_rfl
def A28 : Ann := .two (.leaf) (.two (.join [(15, .b)] [0] [] (.leaf) (.two (.two (.leaf) (.leaf)) (.leaf))) (.two (.two (.leaf) (.two (.two (.leaf) (.leaf)) (.leaf))) (.two (.leaf) (.two (.two (.leaf) (.join [(4, .s)] [] [] (.loop [(4, .s), (5, .i .i64)] [0] [0] (.two (.two (.leaf) (.two (.leaf) (.leaf))) (.join [(4, .s)] [0, 5] [] (.join [(0, .s), (4, .s), (5, .i .i64)] [] [] (.two (.leaf) (.join [(41, .b)] [0, 4, 5, 6] [] (.leaf) (.two (.leaf) (.leaf)))) .leaf) (.leaf)))) .leaf)) (.two (.leaf) (.leaf))))))
def R28 : Slots := [(2, .s), (3, .i .i64)]
noncomputable def overdubref05_Encode : FunA := denF Tryz.prog G28 Tryz.f28 A28 R28
noncomputable def overdubref05_Encode_L1_B (os vs : List AV) (μ : AMem) : Option Res := joinK [(4, .s), (5, .i .i64)] vs (envO [0] os) fun e => den Tryz.prog G28 Tryz.f28.ntmps (cL (cL (cR (cL (cR (cR (cR (cR (bodyOf Tryz.f28))))))))) (aL (aL (aR (aL (aR (aR (aR (aR A28)))))))) { ret := R28, exits := [(0, [(4, .s)])] } Res e μ fun ex e μ => some (ex, valsOf (Lv.at { ret := R28, exits := [(0, [(4, .s)])] } [(4, .s), (5, .i .i64)] ex) e, μ)
noncomputable def overdubref05_Encode_L1 (os vs : List AV) (μ : AMem) : Option Res := loopA (overdubref05_Encode_L1_B os) vs μ
theorem overdubref05_Encode_L1_B_eq (s0 : SV) (s4 : SV) (s5 : Int) (μ : AMem) : overdubref05_Encode_L1_B [.s s0] [.s s4, .s (.int .i64 s5)] μ =
 bif decide (s5 ≤ 18) then
 (seqJ
 ((overdubref05_digits [.s (.int .i64 s5), .s s0] μ).bind fun r37 =>
 extrK 0 r37.1 fun t38 =>
 asS t38 fun x39 =>
 extrK 1 r37.1 fun t40 =>
 asB t40 fun b41 =>
 seqJ
 (bif b41 then
 ((lenS (.s s4)).bind fun l42 =>
 bif !(((l42 : Nat) : Int) == 0) then
 ((lenS (.s x39)).bind fun l43 =>
 (lenS (.s s4)).bind fun l44 =>
 some (.normal, [.s (.bool (decide (((l43 : Nat) : Int) < ((l44 : Nat) : Int))))], r37.2))
 else
 (some (.normal, [.s (.bool true)], r37.2)))
 else
 (some (.normal, [.s (.bool false)], r37.2)))
 (fun vs45 m46 =>
 headK vs45 fun a47 r48 =>
 asB a47 fun b49 =>
 bif b49 then
 (some (.normal, [.s x39], m46))
 else
 (some (.normal, [.s s4], m46)))
 (fun vs50 m51 =>
 headK vs50 fun a55 r56 =>
 asS a55 fun x57 =>
 headK r56 fun a58 r59 =>
 asI .i64 a58 fun n60 =>
 some (.ret, [.s x57, .s (.int .i64 n60)], m51))
 (fun d54 vs52 m53 =>
 none))
 (fun vs61 m62 =>
 headK vs61 fun a63 r64 =>
 asS a63 fun x65 =>
 some (.normal, [.s x65, .s (.int .i64 (IntKind.wrap .i64 (s5 + 1)))], m62))
 (fun vs66 m67 =>
 headK vs66 fun a71 r72 =>
 asS a71 fun x73 =>
 headK r72 fun a74 r75 =>
 asI .i64 a74 fun n76 =>
 some (.ret, [.s x73, .s (.int .i64 n76)], m67))
 (fun d70 vs68 m69 =>
 none))
 else
 (some (.exit 0, [.s s4], μ)) := by rw [← G28_42]; kernel_rfl
theorem overdubref05_Encode_L1_eq (os vs : List AV) (μ : AMem) : overdubref05_Encode_L1 os vs μ = (overdubref05_Encode_L1_B os vs μ).bind fun r => match r.1 with | .normal => overdubref05_Encode_L1 os r.2.1 r.2.2 | _ => some r := loopA_eq _ _ _
theorem overdubref05_Encode_eq (p0 : SV) (μ : AMem) : overdubref05_Encode [.s p0] μ =
 seqJ
 ((lenS (.s p0)).bind fun l1 =>
 bif !(decide (((l1 : Nat) : Int) < 1)) then
 ((lenS (.s p0)).bind fun l2 =>
 some (.normal, [.s (.bool (decide (((l2 : Nat) : Int) > 64)))], μ))
 else
 (some (.normal, [.s (.bool true)], μ)))
 (fun vs3 m4 =>
 headK vs3 fun a5 r6 =>
 asB a5 fun b7 =>
 bif b7 then
 (some (.tuple [.s .nilSlice, .s (.int .i64 4)], m4))
 else
 ((overdubref05_May [.s p0] m4).bind fun r8 =>
 asI .i64 r8.1 fun n9 =>
 bif (n9 != 0) then
 (some (.tuple [.s .nilSlice, .s (.int .i64 8)], r8.2))
 else
 (seqJ (overdubref05_Encode_L1 [.s p0] [.s .nilSlice, .s (.int .i64 0)] r8.2)
 (fun _ _ => none)
 (fun vs10 m11 =>
 headK vs10 fun a15 r16 =>
 asS a15 fun x17 =>
 headK r16 fun a18 r19 =>
 asI .i64 a18 fun n20 =>
 some (.tuple [.s x17, .s (.int .i64 n20)], m11))
 (fun d14 vs12 m13 =>
 bif Nat.beq 0 d14 then (headK vs12 fun a21 r22 =>
 asS a21 fun x23 =>
 (overdubref01_Bits_Bytes [.s x23] m13).bind fun r24 =>
 asS r24.1 fun x25 =>
 some (.tuple [.s x25, .s (.int .i64 0)], r24.2)) else (none)))))
 (fun vs26 m27 =>
 headK vs26 fun a31 r32 =>
 asS a31 fun x33 =>
 headK r32 fun a34 r35 =>
 asI .i64 a34 fun n36 =>
 some (.tuple [.s x33, .s (.int .i64 n36)], m27))
 (fun d30 vs28 m29 =>
 none) := by rw [← G28_41, ← G28_43]; kernel_rfl

noncomputable def G80 : FuncId → FunA := fun _ _ _ => none
def A80 : Ann := .two (.leaf) (.two (.two (.leaf) (.join [(0, .i .u32)] [] [] (.loop [(0, .i .u32), (10, .i .i64)] [1, 9] [0] (.two (.leaf) (.two (.two (.leaf) (.leaf)) (.two (.join [(0, .i .u32), (1, .s), (9, .i .i64), (10, .i .i64)] [] [] (.two (.leaf) (.two (.leaf) (.two (.leaf) (.join [(0, .i .u32), (1, .s), (9, .i .i64), (10, .i .i64)] [] [] (.loop [(0, .i .u32), (6, .i .i64)] [1, 9, 10] [2] (.two (.two (.leaf) (.two (.leaf) (.leaf))) (.join [(0, .i .u32)] [1, 6, 9, 10] [] (.join [(0, .i .u32), (1, .s), (6, .i .i64), (9, .i .i64), (10, .i .i64)] [] [] (.two (.leaf) (.two (.leaf) (.two (.leaf) (.two (.leaf) (.leaf))))) .leaf) (.leaf)))) .leaf)))) .leaf) (.leaf))))) .leaf)) (.two (.leaf) (.leaf)))
def R80 : Slots := [(4, .i .u32)]
noncomputable def overdubref01_Add : FunA := denF Tryz.prog G80 Tryz.f80 A80 R80
noncomputable def overdubref01_Add_L2_B (os vs : List AV) (μ : AMem) : Option Res := joinK [(0, .i .u32), (6, .i .i64)] vs (envO [1, 9, 10] os) fun e => den Tryz.prog G80 Tryz.f80.ntmps (cL (cL (cR (cR (cR (cL (cL (cR (cR (cL (cL (cR (cL (cR (bodyOf Tryz.f80))))))))))))))) (aL (aL (aR (aR (aR (aL (aL (aR (aR (aL (aL (aR (aL (aR A80)))))))))))))) { ret := R80, exits := [(2, [(0, .i .u32), (1, .s), (9, .i .i64), (10, .i .i64)]), (1, [(0, .i .u32), (1, .s), (9, .i .i64), (10, .i .i64)]), (0, [(0, .i .u32)])] } Res e μ fun ex e μ => some (ex, valsOf (Lv.at { ret := R80, exits := [(2, [(0, .i .u32), (1, .s), (9, .i .i64), (10, .i .i64)]), (1, [(0, .i .u32), (1, .s), (9, .i .i64), (10, .i .i64)]), (0, [(0, .i .u32)])] } [(0, .i .u32), (6, .i .i64)] ex) e, μ)
noncomputable def overdubref01_Add_L2 (os vs : List AV) (μ : AMem) : Option Res := loopA (overdubref01_Add_L2_B os) vs μ
noncomputable def overdubref01_Add_L1_B (os vs : List AV) (μ : AMem) : Option Res := joinK [(0, .i .u32), (10, .i .i64)] vs (envO [1, 9] os) fun e => den Tryz.prog G80 Tryz.f80.ntmps (cL (cL (cR (cL (cR (bodyOf Tryz.f80)))))) (aL (aL (aR (aL (aR A80))))) { ret := R80, exits := [(0, [(0, .i .u32)])] } Res e μ fun ex e μ => some (ex, valsOf (Lv.at { ret := R80, exits := [(0, [(0, .i .u32)])] } [(0, .i .u32), (10, .i .i64)] ex) e, μ)
noncomputable def overdubref01_Add_L1 (os vs : List AV) (μ : AMem) : Option Res := loopA (overdubref01_Add_L1_B os) vs μ
theorem overdubref01_Add_L2_B_eq (s1 : SV) (s9 : Int) (s10 : Int) (s0 : Int) (s6 : Int) (μ : AMem) : overdubref01_Add_L2_B [.s s1, .s (.int .i64 s9), .s (.int .i64 s10)] [.s (.int .u32 s0), .s (.int .i64 s6)] μ =
 bif decide (s6 < 8) then
 (seqJ
 (bif ((Int.fdiv s0 (2 ^ (31 : Nat))) == 1) then
 (some (.normal, [.s (.int .u32 (IntKind.wrap .u32 (BitVec.toNat ((BitVec.ofInt (IntKind.bits .u32) (IntKind.wrap .u32 (s0 * 2 ^ (1 : Nat)))) ^^^ (BitVec.ofInt (IntKind.bits .u32) 79764919)))))], μ))
 else
 (some (.normal, [.s (.int .u32 (IntKind.wrap .u32 (s0 * 2 ^ (1 : Nat))))], μ)))
 (fun vs36 m37 =>
 headK vs36 fun a38 r39 =>
 asI .u32 a38 fun n40 =>
 some (.normal, [.s (.int .u32 n40), .s (.int .i64 (IntKind.wrap .i64 (s6 + 1)))], m37))
 (fun vs41 m42 =>
 headK vs41 fun a46 r47 =>
 asI .u32 a46 fun n48 =>
 some (.ret, [.s (.int .u32 n48)], m42))
 (fun d45 vs43 m44 =>
 none))
 else
 (some (.exit 2, [.s (.int .u32 s0), .s s1, .s (.int .i64 s9), .s (.int .i64 s10)], μ)) := by kernel_rfl
theorem overdubref01_Add_L2_eq (os vs : List AV) (μ : AMem) : overdubref01_Add_L2 os vs μ = (overdubref01_Add_L2_B os vs μ).bind fun r => match r.1 with | .normal => overdubref01_Add_L2 os r.2.1 r.2.2 | _ => some r := loopA_eq _ _ _
theorem overdubref01_Add_L1_B_eq (s1 : SV) (s9 : Int) (s0 : Int) (s10 : Int) (μ : AMem) : overdubref01_Add_L1_B [.s s1, .s (.int .i64 s9)] [.s (.int .u32 s0), .s (.int .i64 s10)] μ =
 bif decide (s10 < s9) then
 (indS 1 (.s s1) s10 fun p13 =>
 loadAt μ p13 fun v14 =>
 asI .u8 v14 fun n15 =>
 seqJ (overdubref01_Add_L2 [.s s1, .s (.int .i64 s9), .s (.int .i64 s10)] [.s (.int .u32 (IntKind.wrap .u32 (BitVec.toNat ((BitVec.ofInt (IntKind.bits .u32) s0) ^^^ (BitVec.ofInt (IntKind.bits .u32) (IntKind.wrap .u32 ((IntKind.wrap .u32 n15) * 2 ^ (24 : Nat)))))))), .s (.int .i64 0)] μ)
 (fun _ _ => none)
 (fun vs16 m17 =>
 headK vs16 fun a21 r22 =>
 asI .u32 a21 fun n23 =>
 some (.ret, [.s (.int .u32 n23)], m17))
 (fun d20 vs18 m19 =>
 bif Nat.beq 2 d20 then (headK vs18 fun a24 r25 =>
 asI .u32 a24 fun n26 =>
 headK r25 fun a27 r28 =>
 asS a27 fun x29 =>
 headK r28 fun a30 r31 =>
 asI .i64 a30 fun n32 =>
 headK r31 fun a33 r34 =>
 asI .i64 a33 fun n35 =>
 some (.normal, [.s (.int .u32 n26), .s (.int .i64 (IntKind.wrap .i64 (n35 + 1)))], m19)) else (none)))
 else
 (some (.exit 0, [.s (.int .u32 s0)], μ)) := by kernel_rfl
theorem overdubref01_Add_L1_eq (os vs : List AV) (μ : AMem) : overdubref01_Add_L1 os vs μ = (overdubref01_Add_L1_B os vs μ).bind fun r => match r.1 with | .normal => overdubref01_Add_L1 os r.2.1 r.2.2 | _ => some r := loopA_eq _ _ _
theorem overdubref01_Add_eq (p0 : Int) (p1 : SV) (μ : AMem) : overdubref01_Add [.s (.int .u32 p0), .s p1] μ =
 (lenS (.s p1)).bind fun l1 =>
 seqJ (overdubref01_Add_L1 [.s p1, .s (.int .i64 ((l1 : Nat) : Int))] [.s (.int .u32 p0), .s (.int .i64 0)] μ)
 (fun _ _ => none)
 (fun vs2 m3 =>
 headK vs2 fun a7 r8 =>
 asI .u32 a7 fun n9 =>
 some (.s (.int .u32 n9), m3))
 (fun d6 vs4 m5 =>
 bif Nat.beq 0 d6 then (headK vs4 fun a10 r11 =>
 asI .u32 a10 fun n12 =>
 some (.s (.int .u32 n12), m5)) else (none)) := by kernel_rfl

noncomputable def G52 : FuncId → FunA := fun g => bif Nat.beq g 80 then overdubref01_Add else fun _ _ => none
theorem G52_80 : G52 80 = overdubref01_Add := by kernel_rfl
def A52 : Ann := .two (.leaf) (.two (.leaf) (.leaf))
def R52 : Slots := [(2, .i .u32)]
noncomputable def overdubref01_Sum : FunA := denF Tryz.prog G52 Tryz.f52 A52 R52
theorem overdubref01_Sum_eq (p0 : SV) (μ : AMem) : overdubref01_Sum [.s p0] μ =
 (overdubref01_Add [.s (.int .u32 4294967295), .s p0] μ).bind fun r1 =>
 asI .u32 r1.1 fun n2 =>
 some (.s (.int .u32 n2), r1.2) := by rw [← G52_80]; kernel_rfl

noncomputable def G34 : FuncId → FunA := fun g => bif Nat.beq g 52 then overdubref01_Sum else fun _ _ => none
theorem G34_52 : G34 52 = overdubref01_Sum := by kernel_rfl
def A34 : Ann := .two (.leaf) (.two (.leaf) (.two (.join [(5, .s)] [] [] (.loop [(5, .s)] [1] [0] (.two (.two (.leaf) (.two (.leaf) (.leaf))) (.join [(1, .i .i64), (5, .s)] [] [] (.leaf) .leaf))) .leaf) (.two (.leaf) (.two (.leaf) (.leaf)))))
def R34 : Slots := [(4, .s)]
noncomputable def overdubref01_Summed : FunA := denF Tryz.prog G34 Tryz.f34 A34 R34
noncomputable def overdubref01_Summed_L1_B (os vs : List AV) (μ : AMem) : Option Res := joinK [(5, .s)] vs (envO [1] os) fun e => den Tryz.prog G34 Tryz.f34.ntmps (cL (cL (cL (cR (cR (bodyOf Tryz.f34)))))) (aL (aL (aL (aR (aR A34))))) { ret := R34, exits := [(0, [(5, .s)])] } Res e μ fun ex e μ => some (ex, valsOf (Lv.at { ret := R34, exits := [(0, [(5, .s)])] } [(5, .s)] ex) e, μ)
noncomputable def overdubref01_Summed_L1 (os vs : List AV) (μ : AMem) : Option Res := loopA (overdubref01_Summed_L1_B os) vs μ
theorem overdubref01_Summed_L1_B_eq (s1 : Int) (s5 : SV) (μ : AMem) : overdubref01_Summed_L1_B [.s (.int .i64 s1)] [.s s5] μ =
 (lenS (.s s5)).bind fun l20 =>
 bif decide (((l20 : Nat) : Int) < s1) then
 (appendA 5 1 1 (μ.next + 2) ((μ.bump 4).set (μ.next + 1) (rowObj [.int .u8 0] 1 5 (some 1))) (.s s5) (.s (.slice (μ.next + 1) 0 0 1)) fun x21 m22 =>
 asS x21 fun x23 =>
 some (.normal, [.s x23], m22))
 else
 (some (.exit 0, [.s s5], μ)) := by kernel_rfl
theorem overdubref01_Summed_L1_eq (os vs : List AV) (μ : AMem) : overdubref01_Summed_L1 os vs μ = (overdubref01_Summed_L1_B os vs μ).bind fun r => match r.1 with | .normal => overdubref01_Summed_L1 os r.2.1 r.2.2 | _ => some r := loopA_eq _ _ _
theorem overdubref01_Summed_eq (p0 : SV) (p1 : Int) (μ : AMem) : overdubref01_Summed [.s p0, .s (.int .i64 p1)] μ =
 appendA 5 1 1 (μ.next + 1) (μ.bump 3) (.s .nilSlice) (.s p0) fun x1 m2 =>
 asS x1 fun x3 =>
 seqJ (overdubref01_Summed_L1 [.s (.int .i64 p1)] [.s x3] m2)
 (fun _ _ => none)
 (fun vs4 m5 =>
 headK vs4 fun a9 r10 =>
 asS a9 fun x11 =>
 some (.s x11, m5))
 (fun d8 vs6 m7 =>
 bif Nat.beq 0 d8 then (headK vs6 fun a12 r13 =>
 asS a12 fun x14 =>
 (overdubref01_Sum [.s x14] m7).bind fun r15 =>
 asI .u32 r15.1 fun n16 =>
 appendA 5 1 1 (r15.2.next + 13) ((r15.2.bump 15).set (r15.2.next + 12) (rowObj [.int .u8 (IntKind.wrap .u8 (Int.fdiv n16 (2 ^ (24 : Nat)))), .int .u8 (IntKind.wrap .u8 (Int.fdiv n16 (2 ^ (16 : Nat)))), .int .u8 (IntKind.wrap .u8 (Int.fdiv n16 (2 ^ (8 : Nat)))), .int .u8 (IntKind.wrap .u8 n16)] 1 5 (some 4))) (.s x14) (.s (.slice (r15.2.next + 12) 0 0 4)) fun x17 m18 =>
 asS x17 fun x19 =>
 some (.s x19, m18)) else (none)) := by rw [← G34_52]; kernel_rfl

noncomputable def G20 : FuncId → FunA := fun g => bif Nat.beq g 34 then overdubref01_Summed else fun _ _ => none
theorem G20_34 : G20 34 = overdubref01_Summed := by kernel_rfl
def A20 : Ann := .two (.leaf) (.two (.two (.leaf) (.two (.two (.leaf) (.leaf)) (.leaf))) (.two (.leaf) (.leaf)))
def R20 : Slots := [(2, .s), (3, .i .i64)]
noncomputable def overdubref05_Seal : FunA := denF Tryz.prog G20 Tryz.f20 A20 R20
theorem overdubref05_Seal_eq (p0 : SV) (μ : AMem) : overdubref05_Seal [.s p0] μ =
 (lenS (.s p0)).bind fun l1 =>
 bif decide (((l1 : Nat) : Int) > 124) then
 (some (.tuple [.s .nilSlice, .s (.int .i64 4)], μ))
 else
 ((overdubref01_Summed [.s p0, .s (.int .i64 124)] μ).bind fun r2 =>
 asS r2.1 fun x3 =>
 some (.tuple [.s x3, .s (.int .i64 0)], r2.2)) := by rw [← G20_34]; kernel_rfl

noncomputable def G10 : FuncId → FunA := fun g => bif Nat.beq g 28 then overdubref05_Encode else bif Nat.beq g 20 then overdubref05_Seal else fun _ _ => none
theorem G10_28 : G10 28 = overdubref05_Encode := by kernel_rfl
theorem G10_20 : G10 20 = overdubref05_Seal := by kernel_rfl
def A10 : Ann := .two (.leaf) (.two (.two (.leaf) (.two (.two (.leaf) (.leaf)) (.leaf))) (.two (.two (.leaf) (.join [(0, .s)] [] [] (.loop [(16, .i .i64)] [0, 15] [0] (.two (.leaf) (.two (.two (.leaf) (.leaf)) (.two (.join [(0, .s), (15, .i .i64), (16, .i .i64)] [] [] (.two (.leaf) (.join [(30, .b)] [0, 15, 16] [] (.leaf) (.two (.two (.leaf) (.leaf)) (.leaf)))) .leaf) (.leaf))))) .leaf)) (.two (.two (.leaf) (.join [] [] [] (.loop [(6, .i .i64)] [0] [2] (.two (.two (.leaf) (.two (.leaf) (.leaf))) (.two (.join [(0, .s), (6, .i .i64)] [] [] (.two (.leaf) (.two (.leaf) (.two (.leaf) (.two (.two (.leaf) (.leaf)) (.leaf))))) .leaf) (.leaf)))) .leaf)) (.two (.leaf) (.leaf)))))
def R10 : Slots := [(2, .s), (3, .i .i64), (4, .i .i64)]
noncomputable def overdubref05_Pack : FunA := denF Tryz.prog G10 Tryz.f10 A10 R10
noncomputable def overdubref05_Pack_L2_B (os vs : List AV) (μ : AMem) : Option Res := joinK [(6, .i .i64)] vs (envO [0] os) fun e => den Tryz.prog G10 Tryz.f10.ntmps (cL (cL (cR (cL (cR (cR (cR (bodyOf Tryz.f10)))))))) (aL (aL (aR (aL (aR (aR (aR A10))))))) { ret := R10, exits := [(2, [])] } Res e μ fun ex e μ => some (ex, valsOf (Lv.at { ret := R10, exits := [(2, [])] } [(6, .i .i64)] ex) e, μ)
noncomputable def overdubref05_Pack_L2 (os vs : List AV) (μ : AMem) : Option Res := loopA (overdubref05_Pack_L2_B os) vs μ
noncomputable def overdubref05_Pack_L1_B (os vs : List AV) (μ : AMem) : Option Res := joinK [(16, .i .i64)] vs (envO [0, 15] os) fun e => den Tryz.prog G10 Tryz.f10.ntmps (cL (cL (cR (cL (cR (cR (bodyOf Tryz.f10))))))) (aL (aL (aR (aL (aR (aR A10)))))) { ret := R10, exits := [(0, [(0, .s)])] } Res e μ fun ex e μ => some (ex, valsOf (Lv.at { ret := R10, exits := [(0, [(0, .s)])] } [(16, .i .i64)] ex) e, μ)
noncomputable def overdubref05_Pack_L1 (os vs : List AV) (μ : AMem) : Option Res := loopA (overdubref05_Pack_L1_B os) vs μ
theorem overdubref05_Pack_L2_B_eq (s0 : SV) (s6 : Int) (μ : AMem) : overdubref05_Pack_L2_B [.s s0] [.s (.int .i64 s6)] μ =
 bif decide (s6 > 0) then
 (cutS 1 (.s s0) 0 s6 fun x60 =>
 (overdubref05_Encode [x60] μ).bind fun r61 =>
 extrK 0 r61.1 fun t62 =>
 asS t62 fun x63 =>
 extrK 1 r61.1 fun t64 =>
 asI .i64 t64 fun n65 =>
 (overdubref05_Seal [.s x63] r61.2).bind fun r66 =>
 extrK 0 r66.1 fun t67 =>
 asS t67 fun x68 =>
 extrK 1 r66.1 fun t69 =>
 asI .i64 t69 fun n70 =>
 bif (n70 == 0) then
 (some (.ret, [.s x68, .s (.int .i64 s6), .s (.int .i64 0)], r66.2))
 else
 (some (.normal, [.s (.int .i64 (IntKind.wrap .i64 (s6 - 1)))], r66.2)))
 else
 (some (.exit 2, [], μ)) := by rw [← G10_28, ← G10_20]; kernel_rfl
theorem overdubref05_Pack_L2_eq (os vs : List AV) (μ : AMem) : overdubref05_Pack_L2 os vs μ = (overdubref05_Pack_L2_B os vs μ).bind fun r => match r.1 with | .normal => overdubref05_Pack_L2 os r.2.1 r.2.2 | _ => some r := loopA_eq _ _ _
theorem overdubref05_Pack_L1_B_eq (s0 : SV) (s15 : Int) (s16 : Int) (μ : AMem) : overdubref05_Pack_L1_B [.s s0, .s (.int .i64 s15)] [.s (.int .i64 s16)] μ =
 bif decide (s16 < s15) then
 (seqJ
 (indS 1 (.s s0) s16 fun p35 =>
 loadAt μ p35 fun v36 =>
 asI .i64 v36 fun n37 =>
 bif !(decide (n37 < (-8388608))) then
 (indS 1 (.s s0) s16 fun p38 =>
 loadAt μ p38 fun v39 =>
 asI .i64 v39 fun n40 =>
 some (.normal, [.s (.bool (decide (n40 > 8388607)))], μ))
 else
 (some (.normal, [.s (.bool true)], μ)))
 (fun vs41 m42 =>
 headK vs41 fun a43 r44 =>
 asB a43 fun b45 =>
 bif b45 then
 (some (.ret, [.s .nilSlice, .s (.int .i64 0), .s (.int .i64 8)], m42))
 else
 (some (.normal, [.s (.int .i64 (IntKind.wrap .i64 (s16 + 1)))], m42)))
 (fun vs46 m47 =>
 headK vs46 fun a51 r52 =>
 asS a51 fun x53 =>
 headK r52 fun a54 r55 =>
 asI .i64 a54 fun n56 =>
 headK r55 fun a57 r58 =>
 asI .i64 a57 fun n59 =>
 some (.ret, [.s x53, .s (.int .i64 n56), .s (.int .i64 n59)], m47))
 (fun d50 vs48 m49 =>
 none))
 else
 (some (.exit 0, [.s s0], μ)) := by kernel_rfl
theorem overdubref05_Pack_L1_eq (os vs : List AV) (μ : AMem) : overdubref05_Pack_L1 os vs μ = (overdubref05_Pack_L1_B os vs μ).bind fun r => match r.1 with | .normal => overdubref05_Pack_L1 os r.2.1 r.2.2 | _ => some r := loopA_eq _ _ _
theorem overdubref05_Pack_eq (p0 : SV) (μ : AMem) : overdubref05_Pack [.s p0] μ =
 (lenS (.s p0)).bind fun l1 =>
 bif (((l1 : Nat) : Int) == 0) then
 (some (.tuple [.s .nilSlice, .s (.int .i64 0), .s (.int .i64 4)], μ))
 else
 ((lenS (.s p0)).bind fun l2 =>
 seqJ (overdubref05_Pack_L1 [.s p0, .s (.int .i64 ((l2 : Nat) : Int))] [.s (.int .i64 0)] μ)
 (fun _ _ => none)
 (fun vs3 m4 =>
 headK vs3 fun a8 r9 =>
 asS a8 fun x10 =>
 headK r9 fun a11 r12 =>
 asI .i64 a11 fun n13 =>
 headK r12 fun a14 r15 =>
 asI .i64 a14 fun n16 =>
 some (.tuple [.s x10, .s (.int .i64 n13), .s (.int .i64 n16)], m4))
 (fun d7 vs5 m6 =>
 bif Nat.beq 0 d7 then (headK vs5 fun a17 r18 =>
 asS a17 fun x19 =>
 (lenS (.s x19)).bind fun l20 =>
 seqJ (overdubref05_Pack_L2 [.s x19] [.s (.int .i64 (if 64 < ((l20 : Nat) : Int) then 64 else ((l20 : Nat) : Int)))] m6)
 (fun _ _ => none)
 (fun vs21 m22 =>
 headK vs21 fun a26 r27 =>
 asS a26 fun x28 =>
 headK r27 fun a29 r30 =>
 asI .i64 a29 fun n31 =>
 headK r30 fun a32 r33 =>
 asI .i64 a32 fun n34 =>
 some (.tuple [.s x28, .s (.int .i64 n31), .s (.int .i64 n34)], m22))
 (fun d25 vs23 m24 =>
 bif Nat.beq 2 d25 then (some (.tuple [.s .nilSlice, .s (.int .i64 0), .s (.int .i64 4)], m24)) else (none))) else (none))) := by kernel_rfl

noncomputable def G11 : FuncId → FunA := fun _ _ _ => none
def A11 : Ann := .two (.leaf) (.two (.two (.leaf) (.two (.two (.leaf) (.leaf)) (.leaf))) (.two (.two (.leaf) (.join [] [] [] (.loop [(5, .i .i64)] [0, 1] [0] (.two (.two (.leaf) (.two (.leaf) (.leaf))) (.two (.join [(0, .s), (1, .s), (5, .i .i64)] [] [] (.two (.ord [0, 1, 2, 3, 4, 5, 6, 7, 8]) (.two (.two (.leaf) (.leaf)) (.leaf))) .leaf) (.leaf)))) .leaf)) (.two (.leaf) (.leaf))))
def R11 : Slots := [(4, .b)]
noncomputable def overdubkeep_Same_byte : FunA := denF Tryz.prog G11 Tryz.f11 A11 R11
noncomputable def overdubkeep_Same_byte_L1_B (os vs : List AV) (μ : AMem) : Option Res := joinK [(5, .i .i64)] vs (envO [0, 1] os) fun e => den Tryz.prog G11 Tryz.f11.ntmps (cL (cL (cR (cL (cR (cR (bodyOf Tryz.f11))))))) (aL (aL (aR (aL (aR (aR A11)))))) { ret := R11, exits := [(0, [])] } Res e μ fun ex e μ => some (ex, valsOf (Lv.at { ret := R11, exits := [(0, [])] } [(5, .i .i64)] ex) e, μ)
noncomputable def overdubkeep_Same_byte_L1 (os vs : List AV) (μ : AMem) : Option Res := loopA (overdubkeep_Same_byte_L1_B os) vs μ
theorem overdubkeep_Same_byte_L1_B_eq (s0 : SV) (s1 : SV) (s5 : Int) (μ : AMem) : overdubkeep_Same_byte_L1_B [.s s0, .s s1] [.s (.int .i64 s5)] μ =
 (lenS (.s s0)).bind fun l11 =>
 bif decide (s5 < ((l11 : Nat) : Int)) then
 (indS 1 (.s s0) s5 fun p12 =>
 loadAt μ p12 fun v13 =>
 asI .u8 v13 fun n14 =>
 indS 1 (.s s1) s5 fun p15 =>
 loadAt μ p15 fun v16 =>
 asI .u8 v16 fun n17 =>
 bif (n14 != n17) then
 (some (.ret, [.s (.bool false)], μ))
 else
 (some (.normal, [.s (.int .i64 (IntKind.wrap .i64 (s5 + 1)))], μ)))
 else
 (some (.exit 0, [], μ)) := by kernel_rfl
theorem overdubkeep_Same_byte_L1_eq (os vs : List AV) (μ : AMem) : overdubkeep_Same_byte_L1 os vs μ = (overdubkeep_Same_byte_L1_B os vs μ).bind fun r => match r.1 with | .normal => overdubkeep_Same_byte_L1 os r.2.1 r.2.2 | _ => some r := loopA_eq _ _ _
theorem overdubkeep_Same_byte_eq (p0 : SV) (p1 : SV) (μ : AMem) : overdubkeep_Same_byte [.s p0, .s p1] μ =
 (lenS (.s p0)).bind fun l1 =>
 (lenS (.s p1)).bind fun l2 =>
 bif (((l1 : Nat) : Int) != ((l2 : Nat) : Int)) then
 (some (.s (.bool false), μ))
 else
 (seqJ (overdubkeep_Same_byte_L1 [.s p0, .s p1] [.s (.int .i64 0)] μ)
 (fun _ _ => none)
 (fun vs3 m4 =>
 headK vs3 fun a8 r9 =>
 asB a8 fun b10 =>
 some (.s (.bool b10), m4))
 (fun d7 vs5 m6 =>
 bif Nat.beq 0 d7 then (some (.s (.bool true), m6)) else (none))) := by kernel_rfl

noncomputable def G13 : FuncId → FunA := fun g => bif Nat.beq g 26 then block_right else bif Nat.beq g 9 then block_Coder_Pack else fun _ _ => none
theorem G13_26 : G13 26 = block_right := by kernel_rfl
theorem G13_9 : G13 9 = block_Coder_Pack := by kernel_rfl
def A13 : Ann := .two (.leaf) (.two (.two (.leaf) (.two (.two (.leaf) (.leaf)) (.leaf))) (.two (.leaf) (.two (.leaf) (.two (.join [(7, .s), (8, .s)] [] [] (.loop [(1, .s), (7, .s), (8, .s)] [0] [0] (.two (.two (.leaf) (.two (.leaf) (.leaf))) (.join [(0, .s), (1, .s), (7, .s), (8, .s)] [] [] (.two (.leaf) (.two (.two (.leaf) (.two (.two (.leaf) (.leaf)) (.leaf))) (.ord [0, 1, 2, 3, 4, 5, 6, 7, 8, 9, 10, 11, 12, 13]))) .leaf))) .leaf) (.two (.leaf) (.leaf))))))
def R13 : Slots := [(4, .s), (5, .s), (6, .i .i64)]
noncomputable def block_Coder_All : FunA := denF Tryz.prog G13 Tryz.f13 A13 R13
noncomputable def block_Coder_All_L1_B (os vs : List AV) (μ : AMem) : Option Res := joinK [(1, .s), (7, .s), (8, .s)] vs (envO [0] os) fun e => den Tryz.prog G13 Tryz.f13.ntmps (cL (cL (cL (cR (cR (cR (cR (bodyOf Tryz.f13)))))))) (aL (aL (aL (aR (aR (aR (aR A13))))))) { ret := R13, exits := [(0, [(7, .s), (8, .s)])] } Res e μ fun ex e μ => some (ex, valsOf (Lv.at { ret := R13, exits := [(0, [(7, .s), (8, .s)])] } [(1, .s), (7, .s), (8, .s)] ex) e, μ)
noncomputable def block_Coder_All_L1 (os vs : List AV) (μ : AMem) : Option Res := loopA (block_Coder_All_L1_B os) vs μ
theorem block_Coder_All_L1_B_eq (s0 t0 u0 : Nat) (s1 : SV) (s7 : SV) (s8 : SV) (μ : AMem) : block_Coder_All_L1_B [.s (.ptr s0 t0 u0)] [.s s1, .s s7, .s s8] μ =
 (lenS (.s s1)).bind fun l23 =>
 bif decide (((l23 : Nat) : Int) > 0) then
 ((block_Coder_Pack [.s (.ptr s0 t0 u0), .s s1] μ).bind fun r24 =>
 extrK 0 r24.1 fun t25 =>
 asS t25 fun x26 =>
 extrK 1 r24.1 fun t27 =>
 asI .i64 t27 fun n28 =>
 extrK 2 r24.1 fun t29 =>
 asI .i64 t29 fun n30 =>
 bif (n30 != 0) then
 (some (.ret, [.s .nilSlice, .s .nilSlice, .s (.int .i64 n30)], r24.2))
 else
 (checkA ((r24.2.bump 14).obj (r24.2.next + 2) = none)
 (appendA 27 1 24 (r24.2.next + 3) ((r24.2.bump 14).set (r24.2.next + 2) (rowObj [x26] 1 27 (some 1))) (.s s7) (.s (.slice (r24.2.next + 2) 0 0 1)) fun x31 m32 =>
 asS x31 fun x33 =>
 checkA (m32.obj (r24.2.next + 6) = none)
 (appendA 3 1 8 (r24.2.next + 7) (m32.set (r24.2.next + 6) (rowObj [.int .i64 n28] 1 3 (some 1))) (.s s8) (.s (.slice (r24.2.next + 6) 0 0 1)) fun x34 m35 =>
 asS x34 fun x36 =>
 (lenS (.s s1)).bind fun l37 =>
 cutS 1 (.s s1) n28 ((l37 : Nat) : Int) fun x38 =>
 some (.normal, [x38, .s x33, .s x36], m35)))))
 else
 (some (.exit 0, [.s s7, .s s8], μ)) := by rw [← G13_9]; kernel_rfl
theorem block_Coder_All_L1_eq (os vs : List AV) (μ : AMem) : block_Coder_All_L1 os vs μ = (block_Coder_All_L1_B os vs μ).bind fun r => match r.1 with | .normal => block_Coder_All_L1 os r.2.1 r.2.2 | _ => some r := loopA_eq _ _ _
theorem block_Coder_All_eq (p0 q0 o0 : Nat) (p1 : SV) (μ : AMem) : block_Coder_All [.s (.ptr p0 q0 o0), .s p1] μ =
 (block_right [.s p1] μ).bind fun r1 =>
 asB r1.1 fun b2 =>
 bif (!b2) then
 (some (.tuple [.s .nilSlice, .s .nilSlice, .s (.int .i64 8)], r1.2))
 else
 (seqJ (block_Coder_All_L1 [.s (.ptr p0 q0 o0)] [.s p1, .s .nilSlice, .s .nilSlice] r1.2)
 (fun _ _ => none)
 (fun vs3 m4 =>
 headK vs3 fun a8 r9 =>
 asS a8 fun x10 =>
 headK r9 fun a11 r12 =>
 asS a11 fun x13 =>
 headK r12 fun a14 r15 =>
 asI .i64 a14 fun n16 =>
 some (.tuple [.s x10, .s x13, .s (.int .i64 n16)], m4))
 (fun d7 vs5 m6 =>
 bif Nat.beq 0 d7 then (headK vs5 fun a17 r18 =>
 asS a17 fun x19 =>
 headK r18 fun a20 r21 =>
 asS a20 fun x22 =>
 some (.tuple [.s x19, .s x22, .s (.int .i64 0)], m6)) else (none))) := by rw [← G13_26]; kernel_rfl

noncomputable def G12 : FuncId → FunA := fun g => bif Nat.beq g 8 then block_New else bif Nat.beq g 13 then block_Coder_All else bif Nat.beq g 19 then block_Coder_Seal else fun _ _ => none
theorem G12_8 : G12 8 = block_New := by kernel_rfl
theorem G12_13 : G12 13 = block_Coder_All := by kernel_rfl
theorem G12_19 : G12 19 = block_Coder_Seal := by kernel_rfl
def A12 : Ann := .two (.leaf) (.two (.leaf) (.two (.two (.leaf) (.two (.two (.leaf) (.leaf)) (.leaf))) (.two (.leaf) (.two (.leaf) (.two (.leaf) (.leaf))))))
def R12 : Slots := [(0, .b)]
noncomputable def overdublaw09_wakes : FunA := denF Tryz.prog G12 Tryz.f12 A12 R12
theorem overdublaw09_wakes_eq  (μ : AMem) : overdublaw09_wakes [] μ =
 (block_New [] μ).bind fun r1 =>
 asS r1.1 fun x2 =>
 (isNil (.s x2)).bind fun b3 =>
 bif b3 then
 (some (.s (.bool false), r1.2))
 else
 ((block_Coder_All [.s x2, .s .nilSlice] r1.2).bind fun r4 =>
 extrK 0 r4.1 fun t5 =>
 asS t5 fun x6 =>
 extrK 1 r4.1 fun t7 =>
 asS t7 fun x8 =>
 extrK 2 r4.1 fun t9 =>
 asI .i64 t9 fun n10 =>
 (block_Coder_Seal [.s x2, .s .nilSlice] r4.2).bind fun r11 =>
 extrK 0 r11.1 fun t12 =>
 asS t12 fun x13 =>
 extrK 1 r11.1 fun t14 =>
 asI .i64 t14 fun n15 =>
 bif (n10 == 0) then
 ((lenS (.s x6)).bind fun l16 =>
 (lenS (.s x8)).bind fun l17 =>
 bif ((IntKind.wrap .i64 (((l16 : Nat) : Int) + ((l17 : Nat) : Int))) == 0) then
 (bif (n15 == 0) then
 ((lenS (.s x13)).bind fun l18 =>
 some (.s (.bool (((l18 : Nat) : Int) == 128)), r11.2))
 else
 (some (.s (.bool false), r11.2)))
 else
 (some (.s (.bool false), r11.2)))
 else
 (some (.s (.bool false), r11.2))) := by rw [← G12_8, ← G12_13, ← G12_19]; kernel_rfl

noncomputable def G3 : FuncId → FunA := fun g => bif Nat.beq g 6 then overdublaw08_Tone else bif Nat.beq g 7 then overdubkeep_Samples else bif Nat.beq g 8 then block_New else bif Nat.beq g 9 then block_Coder_Pack else bif Nat.beq g 10 then overdubref05_Pack else bif Nat.beq g 11 then overdubkeep_Same_byte else bif Nat.beq g 12 then overdublaw09_wakes else fun _ _ => none
theorem G3_6 : G3 6 = overdublaw08_Tone := by kernel_rfl
theorem G3_7 : G3 7 = overdubkeep_Samples := by kernel_rfl
theorem G3_8 : G3 8 = block_New := by kernel_rfl
theorem G3_9 : G3 9 = block_Coder_Pack := by kernel_rfl
theorem G3_10 : G3 10 = overdubref05_Pack := by kernel_rfl
theorem G3_11 : G3 11 = overdubkeep_Same_byte := by kernel_rfl
theorem G3_12 : G3 12 = overdublaw09_wakes := by kernel_rfl
def A3 : Ann := .two (.leaf) (.join [(0, .s)] [] [] (.two (.leaf) (.two (.leaf) (.leaf))) (.two (.leaf) (.two (.two (.leaf) (.two (.two (.leaf) (.leaf)) (.leaf))) (.two (.leaf) (.two (.leaf) (.two (.leaf) (.leaf)))))))
def R3 : Slots := [(10, .b)]
noncomputable def overdublaw09_BlockPacks : FunA := denF Tryz.prog G3 Tryz.f3 A3 R3
theorem overdublaw09_BlockPacks_eq (p0 : SV) (p1 : Bool) (p2 : Int) (p3 : Int) (p4 : Int) (μ : AMem) : overdublaw09_BlockPacks [.s p0, .s (.bool p1), .s (.int .i64 p2), .s (.int .i64 p3), .s (.int .i64 p4)] μ =
 seqJ
 (bif ((Int.tmod p2 3) != 0) then
 ((overdublaw08_Tone [.s p0, .s (.int .i64 p4), .s (.int .i64 p2), .s (.int .i64 p3)] μ).bind fun r1 =>
 asS r1.1 fun x2 =>
 some (.normal, [.s x2], r1.2))
 else
 ((overdubkeep_Samples [.s p0, .s (.int .i64 80), .s (.bool p1)] μ).bind fun r3 =>
 asS r3.1 fun x4 =>
 some (.normal, [.s x4], r3.2)))
 (fun vs5 m6 =>
 headK vs5 fun a7 r8 =>
 asS a7 fun x9 =>
 (block_New [] m6).bind fun r10 =>
 asS r10.1 fun x11 =>
 (isNil (.s x11)).bind fun b12 =>
 bif b12 then
 (some (.s (.bool false), r10.2))
 else
 ((block_Coder_Pack [.s x11, .s x9] r10.2).bind fun r13 =>
 extrK 0 r13.1 fun t14 =>
 asS t14 fun x15 =>
 extrK 1 r13.1 fun t16 =>
 asI .i64 t16 fun n17 =>
 extrK 2 r13.1 fun t18 =>
 asI .i64 t18 fun n19 =>
 (overdubref05_Pack [.s x9] r13.2).bind fun r20 =>
 extrK 0 r20.1 fun t21 =>
 asS t21 fun x22 =>
 extrK 1 r20.1 fun t23 =>
 asI .i64 t23 fun n24 =>
 extrK 2 r20.1 fun t25 =>
 asI .i64 t25 fun n26 =>
 bif (n19 == n26) then
 (bif (n17 == n24) then
 ((overdubkeep_Same_byte [.s x15, .s x22] r20.2).bind fun r27 =>
 asB r27.1 fun b28 =>
 bif b28 then
 ((overdublaw09_wakes [] r27.2).bind fun r29 =>
 asB r29.1 fun b30 =>
 some (.s (.bool b30), r29.2))
 else
 (some (.s (.bool false), r27.2)))
 else
 (some (.s (.bool false), r20.2)))
 else
 (some (.s (.bool false), r20.2))))
 (fun vs31 m32 =>
 headK vs31 fun a36 r37 =>
 asB a36 fun b38 =>
 some (.s (.bool b38), m32))
 (fun d35 vs33 m34 =>
 none) := by rw [← G3_6, ← G3_7, ← G3_8, ← G3_9, ← G3_10, ← G3_11, ← G3_12]; kernel_rfl

noncomputable def G44 : FuncId → FunA := fun _ _ _ => none
def A44 : Ann := .two (.leaf) (.two (.leaf) (.leaf))
def R44 : Slots := [(4, .b)]
noncomputable def bytes_Equal : FunA := denF Tryz.prog G44 Tryz.f44 A44 R44
theorem bytes_Equal_eq (p0 : SV) (p1 : SV) (μ : AMem) : bytes_Equal [.s p0, .s p1] μ =
 strA μ (.s p0) fun x1 =>
 asS x1 fun x2 =>
 strA μ (.s p1) fun x3 =>
 asS x3 fun x4 =>
 asT (.s x2) fun t5 =>
 asT (.s x4) fun t6 =>
 some (.s (.bool (t5 == t6)), μ) := by kernel_rfl

noncomputable def G29 : FuncId → FunA := fun g => bif Nat.beq g 33 then block_Coder_sum else bif Nat.beq g 44 then bytes_Equal else fun _ _ => none
theorem G29_33 : G29 33 = block_Coder_sum := by kernel_rfl
theorem G29_44 : G29 44 = bytes_Equal := by kernel_rfl
def A29 : Ann := .two (.leaf) (.two (.join [(18, .b)] [1] [] (.ord [0, 1, 2, 3, 4, 5, 6, 7, 8, 9, 10, 11, 12]) (.two (.two (.leaf) (.leaf)) (.leaf))) (.two (.leaf) (.leaf)))
def R29 : Slots := [(4, .s), (5, .i .i64)]
noncomputable def block_Coder_unseal : FunA := denF Tryz.prog G29 Tryz.f29 A29 R29
theorem block_Coder_unseal_eq (p0 q0 o0 : Nat) (p1 : SV) (μ : AMem) : block_Coder_unseal [.s (.ptr p0 q0 o0), .s p1] μ =
 seqJ
 ((lenS (.s p1)).bind fun l1 =>
 bif !(((l1 : Nat) : Int) != 128) then
 (cutS 1 (.s p1) 0 124 fun x2 =>
 (block_Coder_sum [.s (.ptr p0 q0 o0), x2] μ).bind fun r3 =>
 asS r3.1 fun x4 =>
 (lenS (.s p1)).bind fun l5 =>
 cutS 1 (.s p1) 124 ((l5 : Nat) : Int) fun x6 =>
 (bytes_Equal [.s x4, x6] r3.2).bind fun r7 =>
 asB r7.1 fun b8 =>
 some (.normal, [.s (.bool (!b8))], r7.2))
 else
 (some (.normal, [.s (.bool true)], μ)))
 (fun vs9 m10 =>
 headK vs9 fun a11 r12 =>
 asB a11 fun b13 =>
 bif b13 then
 (some (.tuple [.s .nilSlice, .s (.int .i64 2)], m10))
 else
 (cutS 1 (.s p1) 0 124 fun x14 =>
 appendA 5 1 1 (m10.next + 2) (m10.bump 5) (.s .nilSlice) x14 fun x15 m16 =>
 asS x15 fun x17 =>
 some (.tuple [.s x17, .s (.int .i64 0)], m16)))
 (fun vs18 m19 =>
 headK vs18 fun a23 r24 =>
 asS a23 fun x25 =>
 headK r24 fun a26 r27 =>
 asI .i64 a26 fun n28 =>
 some (.tuple [.s x25, .s (.int .i64 n28)], m19))
 (fun d22 vs20 m21 =>
 none) := by rw [← G29_33, ← G29_44]; kernel_rfl

noncomputable def G45 : FuncId → FunA := fun _ _ _ => none
def A45 : Ann := .two (.leaf) (.two (.leaf) (.leaf))
def R45 : Slots := [(2, .s)]
noncomputable def bits_NewReader : FunA := denF Tryz.prog G45 Tryz.f45 A45 R45
theorem bits_NewReader_eq (p0 : SV) (μ : AMem) : bits_NewReader [.s p0] μ =
 appendA 5 1 1 (μ.next + 1) (μ.bump 5) (.s .nilSlice) (.s p0) fun x1 m2 =>
 asS x1 fun x3 =>
 some (.s (.ptr (μ.next + 3) 0 0), (m2.set (μ.next + 3) (rowObj [x3, .int .i64 0] 2 122 (some 1)))) := by kernel_rfl

noncomputable def G77 : FuncId → FunA := fun _ _ _ => none
def A77 : Ann := .two (.leaf) (.two (.ord [0, 1, 2, 3, 4, 5, 6, 7, 8, 9, 10, 11]) (.leaf))
def R77 : Slots := [(2, .i .i64)]
noncomputable def bits_Reader_Left : FunA := denF Tryz.prog G77 Tryz.f77 A77 R77
theorem bits_Reader_Left_eq (p0 q0 o0 : Nat) (μ : AMem) : bits_Reader_Left [.s (.ptr p0 q0 o0)] μ =
 (μ.cell p0 q0 (o0 + 0)).bind fun x1 =>
 (lenS (.s x1)).bind fun l2 =>
 (μ.cell p0 q0 (o0 + 1)).bind fun x3 =>
 asI .i64 (.s x3) fun n4 =>
 some (.s (.int .i64 (IntKind.wrap .i64 ((IntKind.wrap .i64 (8 * ((l2 : Nat) : Int))) - n4))), μ) := by kernel_rfl

noncomputable def G78 : FuncId → FunA := fun _ _ _ => none
def A78 : Ann := .two (.leaf) (.two (.leaf) (.two (.leaf) (.leaf)))
def R78 : Slots := [(4, .i .i64)]
noncomputable def bits_Reader_digit : FunA := denF Tryz.prog G78 Tryz.f78 A78 R78
theorem bits_Reader_digit_eq (p0 q0 o0 : Nat) (p1 : Int) (μ : AMem) : bits_Reader_digit [.s (.ptr p0 q0 o0), .s (.int .i64 p1)] μ =
 (μ.cell p0 q0 (o0 + 1)).bind fun x1 =>
 asI .i64 (.s x1) fun n2 =>
 (μ.cell p0 q0 (o0 + 0)).bind fun x3 =>
 indS 1 (.s x3) (IntKind.wrap .i64 (Int.tdiv (IntKind.wrap .i64 (n2 + p1)) 8)) fun p4 =>
 loadAt μ p4 fun v5 =>
 asI .u8 v5 fun n6 =>
 if (IntKind.wrap .i64 (7 - (Int.tmod (IntKind.wrap .i64 (n2 + p1)) 8))) < 0 then none else
 (some (.s (.int .i64 (IntKind.wrap .i64 (BitVec.toNat ((BitVec.ofInt (IntKind.bits .i64) (Int.fdiv (IntKind.wrap .i64 n6) (2 ^ (min (Int.toNat (IntKind.wrap .i64 (7 - (Int.tmod (IntKind.wrap .i64 (n2 + p1)) 8)))) (IntKind.bits .i64))))) &&& (BitVec.ofInt (IntKind.bits .i64) 1))))), μ)) := by kernel_rfl

noncomputable def G72 : FuncId → FunA := fun g => bif Nat.beq g 77 then bits_Reader_Left else bif Nat.beq g 78 then bits_Reader_digit else fun _ _ => none
theorem G72_77 : G72 77 = bits_Reader_Left := by kernel_rfl
theorem G72_78 : G72 78 = bits_Reader_digit := by kernel_rfl
def A72 : Ann := .two (.leaf) (.two (.join [(19, .b)] [0, 1] [] (.leaf) (.two (.two (.leaf) (.leaf)) (.leaf))) (.two (.leaf) (.two (.two (.leaf) (.join [(0, .s), (1, .i .i64), (6, .i .i64)] [] [] (.loop [(6, .i .i64), (21, .i .i64)] [0, 1, 20] [0] (.two (.leaf) (.two (.two (.leaf) (.leaf)) (.two (.join [(0, .s), (1, .i .i64), (6, .i .i64), (20, .i .i64), (21, .i .i64)] [] [] (.two (.leaf) (.leaf)) .leaf) (.leaf))))) .leaf)) (.two (.leaf) (.two (.leaf) (.leaf))))))
def R72 : Slots := [(4, .i .i64), (5, .b)]
noncomputable def bits_Reader_Get : FunA := denF Tryz.prog G72 Tryz.f72 A72 R72
noncomputable def bits_Reader_Get_L1_B (os vs : List AV) (μ : AMem) : Option Res := joinK [(6, .i .i64), (21, .i .i64)] vs (envO [0, 1, 20] os) fun e => den Tryz.prog G72 Tryz.f72.ntmps (cL (cL (cR (cL (cR (cR (cR (bodyOf Tryz.f72)))))))) (aL (aL (aR (aL (aR (aR (aR A72))))))) { ret := R72, exits := [(0, [(0, .s), (1, .i .i64), (6, .i .i64)])] } Res e μ fun ex e μ => some (ex, valsOf (Lv.at { ret := R72, exits := [(0, [(0, .s), (1, .i .i64), (6, .i .i64)])] } [(6, .i .i64), (21, .i .i64)] ex) e, μ)
noncomputable def bits_Reader_Get_L1 (os vs : List AV) (μ : AMem) : Option Res := loopA (bits_Reader_Get_L1_B os) vs μ
theorem bits_Reader_Get_L1_B_eq (s0 t0 u0 : Nat) (s1 : Int) (s20 : Int) (s6 : Int) (s21 : Int) (μ : AMem) : bits_Reader_Get_L1_B [.s (.ptr s0 t0 u0), .s (.int .i64 s1), .s (.int .i64 s20)] [.s (.int .i64 s6), .s (.int .i64 s21)] μ =
 bif decide (s21 < s20) then
 ((bits_Reader_digit [.s (.ptr s0 t0 u0), .s (.int .i64 s21)] μ).bind fun r44 =>
 asI .i64 r44.1 fun n45 =>
 some (.normal, [.s (.int .i64 (IntKind.wrap .i64 (BitVec.toNat ((BitVec.ofInt (IntKind.bits .i64) (IntKind.wrap .i64 (s6 * 2 ^ (1 : Nat)))) ||| (BitVec.ofInt (IntKind.bits .i64) n45))))), .s (.int .i64 (IntKind.wrap .i64 (s21 + 1)))], r44.2))
 else
 (some (.exit 0, [.s (.ptr s0 t0 u0), .s (.int .i64 s1), .s (.int .i64 s6)], μ)) := by rw [← G72_78]; kernel_rfl
theorem bits_Reader_Get_L1_eq (os vs : List AV) (μ : AMem) : bits_Reader_Get_L1 os vs μ = (bits_Reader_Get_L1_B os vs μ).bind fun r => match r.1 with | .normal => bits_Reader_Get_L1 os r.2.1 r.2.2 | _ => some r := loopA_eq _ _ _
theorem bits_Reader_Get_eq (p0 q0 o0 : Nat) (p1 : Int) (μ : AMem) : bits_Reader_Get [.s (.ptr p0 q0 o0), .s (.int .i64 p1)] μ =
 seqJ
 (bif !(decide (p1 < 0)) then
 (bif !(decide (p1 > 62)) then
 ((bits_Reader_Left [.s (.ptr p0 q0 o0)] μ).bind fun r1 =>
 asI .i64 r1.1 fun n2 =>
 some (.normal, [.s (.bool (decide (p1 > n2)))], r1.2))
 else
 (some (.normal, [.s (.bool true)], μ)))
 else
 (some (.normal, [.s (.bool true)], μ)))
 (fun vs3 m4 =>
 headK vs3 fun a5 r6 =>
 asB a5 fun b7 =>
 bif b7 then
 (some (.tuple [.s (.int .i64 0), .s (.bool false)], m4))
 else
 (seqJ (bits_Reader_Get_L1 [.s (.ptr p0 q0 o0), .s (.int .i64 p1), .s (.int .i64 p1)] [.s (.int .i64 0), .s (.int .i64 0)] m4)
 (fun _ _ => none)
 (fun vs8 m9 =>
 headK vs8 fun a13 r14 =>
 asI .i64 a13 fun n15 =>
 headK r14 fun a16 r17 =>
 asB a16 fun b18 =>
 some (.tuple [.s (.int .i64 n15), .s (.bool b18)], m9))
 (fun d12 vs10 m11 =>
 bif Nat.beq 0 d12 then (headK vs10 fun a19 r20 =>
 asS a19 fun x21 =>
 headK r20 fun a22 r23 =>
 asI .i64 a22 fun n24 =>
 headK r23 fun a25 r26 =>
 asI .i64 a25 fun n27 =>
 nonNil (.s x21)
 (ptrAdd 1 (.s x21) fun p28 =>
 loadAt m11 p28 fun v29 =>
 asI .i64 v29 fun n30 =>
 nonNil (.s x21)
 (ptrAdd 1 (.s x21) fun p31 =>
 storeAt 1 m11 p31 (.s (.int .i64 (IntKind.wrap .i64 (n30 + n24)))) fun m32 =>
 some (.tuple [.s (.int .i64 n27), .s (.bool true)], m32)))) else (none))))
 (fun vs33 m34 =>
 headK vs33 fun a38 r39 =>
 asI .i64 a38 fun n40 =>
 headK r39 fun a41 r42 =>
 asB a41 fun b43 =>
 some (.tuple [.s (.int .i64 n40), .s (.bool b43)], m34))
 (fun d37 vs35 m36 =>
 none) := by rw [← G72_77]; kernel_rfl

noncomputable def G46 : FuncId → FunA := fun g => bif Nat.beq g 72 then bits_Reader_Get else fun _ _ => none
theorem G46_72 : G46 72 = bits_Reader_Get := by kernel_rfl
def A46 : Ann := .two (.leaf) (.two (.leaf) (.join [] [5] [] (.leaf) (.two (.leaf) (.leaf))))
def R46 : Slots := [(4, .i .i64)]
noncomputable def frame_reader_get : FunA := denF Tryz.prog G46 Tryz.f46 A46 R46
theorem frame_reader_get_eq (p0 q0 o0 : Nat) (p1 : Int) (μ : AMem) : frame_reader_get [.s (.ptr p0 q0 o0), .s (.int .i64 p1)] μ =
 (μ.cell p0 q0 (o0 + 0)).bind fun x1 =>
 (bits_Reader_Get [.s x1, .s (.int .i64 p1)] μ).bind fun r2 =>
 extrK 0 r2.1 fun t3 =>
 asI .i64 t3 fun n4 =>
 extrK 1 r2.1 fun t5 =>
 asB t5 fun b6 =>
 seqJ
 ((r2.2.cell p0 q0 (o0 + 1)).bind fun x7 =>
 asB (.s x7) fun b8 =>
 bif !b8 then
 ((r2.2.store p0 q0 (o0 + 1) [.bool (!b6)]).bind fun m9 =>
 some (.normal, [], m9))
 else
 ((r2.2.store p0 q0 (o0 + 1) [.bool true]).bind fun m10 =>
 some (.normal, [], m10)))
 (fun vs11 m12 =>
 some (.s (.int .i64 n4), m12))
 (fun vs13 m14 =>
 headK vs13 fun a18 r19 =>
 asI .i64 a18 fun n20 =>
 some (.s (.int .i64 n20), m14))
 (fun d17 vs15 m16 =>
 none) := by rw [← G46_72]; kernel_rfl

noncomputable def G73 : FuncId → FunA := fun g => bif Nat.beq g 46 then frame_reader_get else fun _ _ => none
theorem G73_46 : G73 46 = frame_reader_get := by kernel_rfl
def A73 : Ann := .two (.leaf) (.two (.leaf) (.two (.two (.leaf) (.join [(5, .s)] [] [] (.loop [(5, .s), (7, .i .i64)] [0, 6] [0] (.two (.leaf) (.two (.two (.leaf) (.leaf)) (.two (.join [(0, .s), (5, .s), (6, .i .i64), (7, .i .i64)] [] [] (.leaf) .leaf) (.leaf))))) .leaf)) (.two (.leaf) (.leaf))))
def R73 : Slots := [(4, .s)]
noncomputable def frame_reader_samples : FunA := denF Tryz.prog G73 Tryz.f73 A73 R73
noncomputable def frame_reader_samples_L1_B (os vs : List AV) (μ : AMem) : Option Res := joinK [(5, .s), (7, .i .i64)] vs (envO [0, 6] os) fun e => den Tryz.prog G73 Tryz.f73.ntmps (cL (cL (cR (cL (cR (cR (bodyOf Tryz.f73))))))) (aL (aL (aR (aL (aR (aR A73)))))) { ret := R73, exits := [(0, [(5, .s)])] } Res e μ fun ex e μ => some (ex, valsOf (Lv.at { ret := R73, exits := [(0, [(5, .s)])] } [(5, .s), (7, .i .i64)] ex) e, μ)
noncomputable def frame_reader_samples_L1 (os vs : List AV) (μ : AMem) : Option Res := loopA (frame_reader_samples_L1_B os) vs μ
theorem frame_reader_samples_L1_B_eq (s0 t0 u0 : Nat) (s6 : Int) (s5 : SV) (s7 : Int) (μ : AMem) : frame_reader_samples_L1_B [.s (.ptr s0 t0 u0), .s (.int .i64 s6)] [.s s5, .s (.int .i64 s7)] μ =
 bif decide (s7 < s6) then
 ((frame_reader_get [.s (.ptr s0 t0 u0), .s (.int .i64 24)] (μ.bump 7)).bind fun r12 =>
 asI .i64 r12.1 fun n13 =>
 appendA 3 1 8 (μ.next + 5) (r12.2.set (μ.next + 4) (rowObj [.int .i64 (IntKind.wrap .i64 (n13 + (-8388608)))] 1 3 (some 1))) (.s s5) (.s (.slice (μ.next + 4) 0 0 1)) fun x14 m15 =>
 asS x14 fun x16 =>
 some (.normal, [.s x16, .s (.int .i64 (IntKind.wrap .i64 (s7 + 1)))], m15))
 else
 (some (.exit 0, [.s s5], μ)) := by rw [← G73_46]; kernel_rfl
theorem frame_reader_samples_L1_eq (os vs : List AV) (μ : AMem) : frame_reader_samples_L1 os vs μ = (frame_reader_samples_L1_B os vs μ).bind fun r => match r.1 with | .normal => frame_reader_samples_L1 os r.2.1 r.2.2 | _ => some r := loopA_eq _ _ _
theorem frame_reader_samples_eq (p0 q0 o0 : Nat) (p1 : Int) (μ : AMem) : frame_reader_samples [.s (.ptr p0 q0 o0), .s (.int .i64 p1)] μ =
 seqJ (frame_reader_samples_L1 [.s (.ptr p0 q0 o0), .s (.int .i64 p1)] [.s .nilSlice, .s (.int .i64 0)] μ)
 (fun _ _ => none)
 (fun vs1 m2 =>
 headK vs1 fun a6 r7 =>
 asS a6 fun x8 =>
 some (.s x8, m2))
 (fun d5 vs3 m4 =>
 bif Nat.beq 0 d5 then (headK vs3 fun a9 r10 =>
 asS a9 fun x11 =>
 some (.s x11, m4)) else (none)) := by kernel_rfl

noncomputable def G120 : FuncId → FunA := fun _ _ _ => none
def A120 : Ann := .two (.leaf) (.two (.ord [0, 1, 2, 3, 4, 5, 6, 7, 8, 9, 10]) (.leaf))
def R120 : Slots := [(2, .s)]
noncomputable def bits_Reader_Back : FunA := denF Tryz.prog G120 Tryz.f120 A120 R120
theorem bits_Reader_Back_eq (p0 q0 o0 : Nat) (μ : AMem) : bits_Reader_Back [.s (.ptr p0 q0 o0)] μ =
 ((μ.bump 11).cell p0 q0 (o0 + 0)).bind fun x1 =>
 ((μ.bump 11).cell p0 q0 (o0 + 1)).bind fun x2 =>
 asI .i64 (.s x2) fun n3 =>
 checkA ((μ.bump 11).obj (μ.next + 9) = none)
 (some (.s (.ptr (μ.next + 9) 0 0), ((μ.bump 11).set (μ.next + 9) (rowObj [x1, .int .i64 n3] 2 122 (some 1))))) := by kernel_rfl

noncomputable def G121 : FuncId → FunA := fun g => bif Nat.beq g 77 then bits_Reader_Left else bif Nat.beq g 78 then bits_Reader_digit else fun _ _ => none
theorem G121_77 : G121 77 = bits_Reader_Left := by kernel_rfl
theorem G121_78 : G121 78 = bits_Reader_digit := by kernel_rfl
def A121 : Ann := .two (.leaf) (.two (.join [(13, .b)] [0, 1] [] (.leaf) (.two (.two (.leaf) (.leaf)) (.leaf))) (.two (.leaf) (.two (.two (.leaf) (.join [(0, .s), (1, .i .i64)] [] [] (.loop [(17, .i .i64)] [0, 1, 6, 16] [0] (.two (.leaf) (.two (.two (.leaf) (.leaf)) (.two (.join [(0, .s), (1, .i .i64), (6, .i .i64), (16, .i .i64), (17, .i .i64)] [] [] (.two (.leaf) (.two (.two (.leaf) (.two (.two (.leaf) (.leaf)) (.leaf))) (.two (.leaf) (.two (.two (.leaf) (.two (.leaf) (.leaf))) (.leaf))))) .leaf) (.leaf))))) .leaf)) (.two (.leaf) (.two (.leaf) (.leaf))))))
def R121 : Slots := [(4, .i .i64), (5, .b)]
noncomputable def bits_Reader_Ones : FunA := denF Tryz.prog G121 Tryz.f121 A121 R121
noncomputable def bits_Reader_Ones_L1_B (os vs : List AV) (μ : AMem) : Option Res := joinK [(17, .i .i64)] vs (envO [0, 1, 6, 16] os) fun e => den Tryz.prog G121 Tryz.f121.ntmps (cL (cL (cR (cL (cR (cR (cR (bodyOf Tryz.f121)))))))) (aL (aL (aR (aL (aR (aR (aR A121))))))) { ret := R121, exits := [(0, [(0, .s), (1, .i .i64)])] } Res e μ fun ex e μ => some (ex, valsOf (Lv.at { ret := R121, exits := [(0, [(0, .s), (1, .i .i64)])] } [(17, .i .i64)] ex) e, μ)
noncomputable def bits_Reader_Ones_L1 (os vs : List AV) (μ : AMem) : Option Res := loopA (bits_Reader_Ones_L1_B os) vs μ
theorem bits_Reader_Ones_L1_B_eq (s0 t0 u0 : Nat) (s1 : Int) (s6 : Int) (s16 : Int) (s17 : Int) (μ : AMem) : bits_Reader_Ones_L1_B [.s (.ptr s0 t0 u0), .s (.int .i64 s1), .s (.int .i64 s6), .s (.int .i64 s16)] [.s (.int .i64 s17)] μ =
 bif decide (s17 < s16) then
 (bif decide (s17 ≥ s6) then
 (some (.ret, [.s (.int .i64 0), .s (.bool false)], μ))
 else
 ((bits_Reader_digit [.s (.ptr s0 t0 u0), .s (.int .i64 s17)] μ).bind fun r41 =>
 asI .i64 r41.1 fun n42 =>
 bif (n42 == 0) then
 ((r41.2.cell s0 t0 (u0 + 1)).bind fun x43 =>
 asI .i64 (.s x43) fun n44 =>
 (r41.2.store s0 t0 (u0 + 1) [.int .i64 (IntKind.wrap .i64 ((IntKind.wrap .i64 (n44 + s17)) + 1))]).bind fun m45 =>
 some (.ret, [.s (.int .i64 s17), .s (.bool true)], m45))
 else
 (some (.normal, [.s (.int .i64 (IntKind.wrap .i64 (s17 + 1)))], r41.2))))
 else
 (some (.exit 0, [.s (.ptr s0 t0 u0), .s (.int .i64 s1)], μ)) := by rw [← G121_78]; kernel_rfl
theorem bits_Reader_Ones_L1_eq (os vs : List AV) (μ : AMem) : bits_Reader_Ones_L1 os vs μ = (bits_Reader_Ones_L1_B os vs μ).bind fun r => match r.1 with | .normal => bits_Reader_Ones_L1 os r.2.1 r.2.2 | _ => some r := loopA_eq _ _ _
theorem bits_Reader_Ones_eq (p0 q0 o0 : Nat) (p1 : Int) (μ : AMem) : bits_Reader_Ones [.s (.ptr p0 q0 o0), .s (.int .i64 p1)] μ =
 seqJ
 (bif !(decide (p1 < 0)) then
 (some (.normal, [.s (.bool (decide (p1 > 1024)))], μ))
 else
 (some (.normal, [.s (.bool true)], μ)))
 (fun vs1 m2 =>
 headK vs1 fun a3 r4 =>
 asB a3 fun b5 =>
 bif b5 then
 (some (.tuple [.s (.int .i64 0), .s (.bool false)], m2))
 else
 ((bits_Reader_Left [.s (.ptr p0 q0 o0)] m2).bind fun r6 =>
 asI .i64 r6.1 fun n7 =>
 seqJ (bits_Reader_Ones_L1 [.s (.ptr p0 q0 o0), .s (.int .i64 p1), .s (.int .i64 n7), .s (.int .i64 p1)] [.s (.int .i64 0)] r6.2)
 (fun _ _ => none)
 (fun vs8 m9 =>
 headK vs8 fun a13 r14 =>
 asI .i64 a13 fun n15 =>
 headK r14 fun a16 r17 =>
 asB a16 fun b18 =>
 some (.tuple [.s (.int .i64 n15), .s (.bool b18)], m9))
 (fun d12 vs10 m11 =>
 bif Nat.beq 0 d12 then (headK vs10 fun a19 r20 =>
 asS a19 fun x21 =>
 headK r20 fun a22 r23 =>
 asI .i64 a22 fun n24 =>
 nonNil (.s x21)
 (ptrAdd 1 (.s x21) fun p25 =>
 loadAt m11 p25 fun v26 =>
 asI .i64 v26 fun n27 =>
 nonNil (.s x21)
 (ptrAdd 1 (.s x21) fun p28 =>
 storeAt 1 m11 p28 (.s (.int .i64 (IntKind.wrap .i64 (n27 + n24)))) fun m29 =>
 some (.tuple [.s (.int .i64 n24), .s (.bool true)], m29)))) else (none))))
 (fun vs30 m31 =>
 headK vs30 fun a35 r36 =>
 asI .i64 a35 fun n37 =>
 headK r36 fun a38 r39 =>
 asB a38 fun b40 =>
 some (.tuple [.s (.int .i64 n37), .s (.bool b40)], m31))
 (fun d34 vs32 m33 =>
 none) := by rw [← G121_77]; kernel_rfl

noncomputable def G122 : FuncId → FunA := fun _ _ _ => none
def A122 : Ann := .ord [0, 1, 2, 3, 4, 5, 6, 7, 8, 9, 10, 11, 12, 13, 14, 15]
def R122 : Slots := []
noncomputable def bits_Reader_To : FunA := denF Tryz.prog G122 Tryz.f122 A122 R122
theorem bits_Reader_To_eq (p0 q0 o0 : Nat) (p1 q1 o1 : Nat) (μ : AMem) : bits_Reader_To [.s (.ptr p0 q0 o0), .s (.ptr p1 q1 o1)] μ =
 (μ.cell p1 q1 (o1 + 0)).bind fun x1 =>
 (μ.cell p1 q1 (o1 + 1)).bind fun x2 =>
 asI .i64 (.s x2) fun n3 =>
 (μ.store p0 q0 (o0 + 0) [x1]).bind fun m4 =>
 (m4.store p0 q0 (o0 + 1) [.int .i64 n3]).bind fun m5 =>
 some (.tuple [], m5) := by kernel_rfl

noncomputable def G102 : FuncId → FunA := fun g => bif Nat.beq g 120 then bits_Reader_Back else bif Nat.beq g 121 then bits_Reader_Ones else bif Nat.beq g 72 then bits_Reader_Get else bif Nat.beq g 122 then bits_Reader_To else fun _ _ => none
theorem G102_120 : G102 120 = bits_Reader_Back := by kernel_rfl
theorem G102_121 : G102 121 = bits_Reader_Ones := by kernel_rfl
theorem G102_72 : G102 72 = bits_Reader_Get := by kernel_rfl
theorem G102_122 : G102 122 = bits_Reader_To := by kernel_rfl
def A102 : Ann := .two (.leaf) (.two (.join [(16, .b)] [0, 1] [] (.leaf) (.two (.two (.leaf) (.leaf)) (.leaf))) (.two (.leaf) (.two (.leaf) (.two (.two (.leaf) (.two (.two (.leaf) (.leaf)) (.leaf))) (.two (.leaf) (.join [(9, .i .i64)] [0, 1, 6, 7] [] (.two (.leaf) (.two (.leaf) (.leaf))) (.two (.leaf) (.join [(10, .i .i64)] [0, 6] [] (.join [(0, .s), (6, .s), (10, .i .i64)] [] [] (.two (.leaf) (.two (.two (.leaf) (.leaf)) (.two (.leaf) (.two (.leaf) (.two (.leaf) (.two (.two (.leaf) (.leaf)) (.leaf))))))) .leaf) (.two (.leaf) (.two (.leaf) (.leaf)))))))))))
def R102 : Slots := [(4, .i .i64), (5, .b)]
noncomputable def rice_Get : FunA := denF Tryz.prog G102 Tryz.f102 A102 R102
theorem rice_Get_eq (p0 q0 o0 : Nat) (p1 : Int) (μ : AMem) : rice_Get [.s (.ptr p0 q0 o0), .s (.int .i64 p1)] μ =
 seqJ
 (bif !(decide (p1 < 0)) then
 (some (.normal, [.s (.bool (decide (p1 > 24)))], μ))
 else
 (some (.normal, [.s (.bool true)], μ)))
 (fun vs1 m2 =>
 headK vs1 fun a3 r4 =>
 asB a3 fun b5 =>
 bif b5 then
 (some (.tuple [.s (.int .i64 0), .s (.bool false)], m2))
 else
 ((bits_Reader_Back [.s (.ptr p0 q0 o0)] m2).bind fun r6 =>
 asS r6.1 fun x7 =>
 (bits_Reader_Ones [.s x7, .s (.int .i64 24)] r6.2).bind fun r8 =>
 extrK 0 r8.1 fun t9 =>
 asI .i64 t9 fun n10 =>
 extrK 1 r8.1 fun t11 =>
 asB t11 fun b12 =>
 bif (!b12) then
 (some (.tuple [.s (.int .i64 0), .s (.bool false)], r8.2))
 else
 (seqJ
 (bif (n10 == 24) then
 (some (.normal, [.s (.int .i64 32)], r8.2))
 else
 (some (.normal, [.s (.int .i64 p1)], r8.2)))
 (fun vs13 m14 =>
 headK vs13 fun a15 r16 =>
 asI .i64 a15 fun n17 =>
 (bits_Reader_Get [.s x7, .s (.int .i64 n17)] m14).bind fun r18 =>
 extrK 0 r18.1 fun t19 =>
 asI .i64 t19 fun n20 =>
 extrK 1 r18.1 fun t21 =>
 asB t21 fun b22 =>
 seqJ
 (bif (!b22) then
 (some (.ret, [.s (.int .i64 0), .s (.bool false)], r18.2))
 else
 (bif decide (n10 < 24) then
 (if p1 < 0 then none else
 (some (.normal, [.s (.int .i64 (IntKind.wrap .i64 (BitVec.toNat ((BitVec.ofInt (IntKind.bits .i64) (IntKind.wrap .i64 (n10 * 2 ^ (min (Int.toNat p1) (IntKind.bits .i64))))) ||| (BitVec.ofInt (IntKind.bits .i64) n20)))))], r18.2)))
 else
 (if p1 < 0 then none else
 (bif decide ((Int.fdiv n20 (2 ^ (min (Int.toNat p1) (IntKind.bits .i64)))) < 24) then
 (some (.ret, [.s (.int .i64 0), .s (.bool false)], r18.2))
 else
 (some (.normal, [.s (.int .i64 n20)], r18.2))))))
 (fun vs23 m24 =>
 headK vs23 fun a25 r26 =>
 asI .i64 a25 fun n27 =>
 (bits_Reader_To [.s (.ptr p0 q0 o0), .s x7] m24).bind fun r28 =>
 some (.tuple [.s (.int .i64 n27), .s (.bool true)], r28.2))
 (fun vs29 m30 =>
 headK vs29 fun a34 r35 =>
 asI .i64 a34 fun n36 =>
 headK r35 fun a37 r38 =>
 asB a37 fun b39 =>
 some (.tuple [.s (.int .i64 n36), .s (.bool b39)], m30))
 (fun d33 vs31 m32 =>
 none))
 (fun vs40 m41 =>
 headK vs40 fun a45 r46 =>
 asI .i64 a45 fun n47 =>
 headK r46 fun a48 r49 =>
 asB a48 fun b50 =>
 some (.tuple [.s (.int .i64 n47), .s (.bool b50)], m41))
 (fun d44 vs42 m43 =>
 none))))
 (fun vs51 m52 =>
 headK vs51 fun a56 r57 =>
 asI .i64 a56 fun n58 =>
 headK r57 fun a59 r60 =>
 asB a59 fun b61 =>
 some (.tuple [.s (.int .i64 n58), .s (.bool b61)], m52))
 (fun d55 vs53 m54 =>
 none) := by rw [← G102_120, ← G102_121, ← G102_72, ← G102_122]; kernel_rfl

noncomputable def G103 : FuncId → FunA := fun _ _ _ => none
def A103 : Ann := .two (.leaf) (.two (.join [(0, .i .i64)] [] [] (.join [(3, .b)] [0] [] (.leaf) (.two (.two (.leaf) (.leaf)) (.two (.leaf) (.two (.two (.leaf) (.leaf)) (.leaf))))) .leaf) (.two (.leaf) (.leaf)))
def R103 : Slots := [(2, .i .i64)]
noncomputable def rice_Zag : FunA := denF Tryz.prog G103 Tryz.f103 A103 R103
theorem rice_Zag_eq (p0 : Int) (μ : AMem) : rice_Zag [.s (.int .i64 p0)] μ =
 seqJ
 (bif !(decide (p0 < 0)) then
 (some (.normal, [.s (.bool (decide (p0 ≥ 2199023255552)))], μ))
 else
 (some (.normal, [.s (.bool true)], μ)))
 (fun vs1 m2 =>
 headK vs1 fun a3 r4 =>
 asB a3 fun b5 =>
 bif b5 then
 (some (.s (.int .i64 0), m2))
 else
 (bif ((Int.tmod p0 2) == 1) then
 (some (.s (.int .i64 (IntKind.wrap .i64 (Int.tdiv (IntKind.wrap .i64 (0 - (IntKind.wrap .i64 (p0 + 1)))) 2))), m2))
 else
 (some (.s (.int .i64 (IntKind.wrap .i64 (Int.tdiv p0 2))), m2))))
 (fun vs6 m7 =>
 headK vs6 fun a11 r12 =>
 asI .i64 a11 fun n13 =>
 some (.s (.int .i64 n13), m7))
 (fun d10 vs8 m9 =>
 none) := by kernel_rfl

noncomputable def G75 : FuncId → FunA := fun g => bif Nat.beq g 46 then frame_reader_get else bif Nat.beq g 102 then rice_Get else bif Nat.beq g 103 then rice_Zag else fun _ _ => none
theorem G75_46 : G75 46 = frame_reader_get := by kernel_rfl
theorem G75_102 : G75 102 = rice_Get := by kernel_rfl
theorem G75_103 : G75 103 = rice_Zag := by kernel_rfl
def A75 : Ann := .two (.leaf) (.two (.leaf) (.join [] [0, 1, 5] [] (.leaf) (.two (.leaf) (.two (.two (.leaf) (.join [(6, .s)] [] [] (.loop [(6, .s), (23, .i .i64)] [0, 5, 22] [0] (.two (.leaf) (.two (.two (.leaf) (.leaf)) (.two (.join [(0, .s), (5, .i .i64), (6, .s), (22, .i .i64), (23, .i .i64)] [] [] (.two (.leaf) (.two (.two (.leaf) (.two (.two (.leaf) (.two (.leaf) (.leaf))) (.leaf))) (.leaf))) .leaf) (.leaf))))) .leaf)) (.two (.leaf) (.leaf))))))
def R75 : Slots := [(4, .s)]
noncomputable def frame_reader_residuals : FunA := denF Tryz.prog G75 Tryz.f75 A75 R75
noncomputable def frame_reader_residuals_L1_B (os vs : List AV) (μ : AMem) : Option Res := joinK [(6, .s), (23, .i .i64)] vs (envO [0, 5, 22] os) fun e => den Tryz.prog G75 Tryz.f75.ntmps (cL (cL (cR (cL (cR (cR (cR (cR (bodyOf Tryz.f75))))))))) (aL (aL (aR (aL (aR (aR (aR (aR A75)))))))) { ret := R75, exits := [(0, [(6, .s)])] } Res e μ fun ex e μ => some (ex, valsOf (Lv.at { ret := R75, exits := [(0, [(6, .s)])] } [(6, .s), (23, .i .i64)] ex) e, μ)
noncomputable def frame_reader_residuals_L1 (os vs : List AV) (μ : AMem) : Option Res := loopA (frame_reader_residuals_L1_B os) vs μ
theorem frame_reader_residuals_L1_B_eq (s0 t0 u0 : Nat) (s5 : Int) (s22 : Int) (s6 : SV) (s23 : Int) (μ : AMem) : frame_reader_residuals_L1_B [.s (.ptr s0 t0 u0), .s (.int .i64 s5), .s (.int .i64 s22)] [.s s6, .s (.int .i64 s23)] μ =
 bif decide (s23 < s22) then
 ((μ.cell s0 t0 (u0 + 0)).bind fun x28 =>
 (rice_Get [.s x28, .s (.int .i64 s5)] μ).bind fun r29 =>
 extrK 0 r29.1 fun t30 =>
 asI .i64 t30 fun n31 =>
 extrK 1 r29.1 fun t32 =>
 asB t32 fun b33 =>
 bif (!b33) then
 ((r29.2.store s0 t0 (u0 + 1) [.bool true]).bind fun m34 =>
 some (.ret, [.s .nilSlice], m34))
 else
 ((rice_Zag [.s (.int .i64 n31)] (r29.2.bump 6)).bind fun r35 =>
 asI .i64 r35.1 fun n36 =>
 appendA 3 1 8 (r29.2.next + 4) (r35.2.set (r29.2.next + 3) (rowObj [.int .i64 n36] 1 3 (some 1))) (.s s6) (.s (.slice (r29.2.next + 3) 0 0 1)) fun x37 m38 =>
 asS x37 fun x39 =>
 some (.normal, [.s x39, .s (.int .i64 (IntKind.wrap .i64 (s23 + 1)))], m38)))
 else
 (some (.exit 0, [.s s6], μ)) := by rw [← G75_102, ← G75_103]; kernel_rfl
theorem frame_reader_residuals_L1_eq (os vs : List AV) (μ : AMem) : frame_reader_residuals_L1 os vs μ = (frame_reader_residuals_L1_B os vs μ).bind fun r => match r.1 with | .normal => frame_reader_residuals_L1 os r.2.1 r.2.2 | _ => some r := loopA_eq _ _ _
theorem frame_reader_residuals_eq (p0 q0 o0 : Nat) (p1 : Int) (μ : AMem) : frame_reader_residuals [.s (.ptr p0 q0 o0), .s (.int .i64 p1)] μ =
 (frame_reader_get [.s (.ptr p0 q0 o0), .s (.int .i64 5)] μ).bind fun r1 =>
 asI .i64 r1.1 fun n2 =>
 seqJ
 ((r1.2.cell p0 q0 (o0 + 1)).bind fun x3 =>
 asB (.s x3) fun b4 =>
 bif !b4 then
 ((r1.2.store p0 q0 (o0 + 1) [.bool (decide (n2 > 24))]).bind fun m5 =>
 some (.normal, [], m5))
 else
 ((r1.2.store p0 q0 (o0 + 1) [.bool true]).bind fun m6 =>
 some (.normal, [], m6)))
 (fun vs7 m8 =>
 seqJ (frame_reader_residuals_L1 [.s (.ptr p0 q0 o0), .s (.int .i64 n2), .s (.int .i64 p1)] [.s .nilSlice, .s (.int .i64 0)] m8)
 (fun _ _ => none)
 (fun vs9 m10 =>
 headK vs9 fun a14 r15 =>
 asS a14 fun x16 =>
 some (.s x16, m10))
 (fun d13 vs11 m12 =>
 bif Nat.beq 0 d13 then (headK vs11 fun a17 r18 =>
 asS a17 fun x19 =>
 some (.s x19, m12)) else (none)))
 (fun vs20 m21 =>
 headK vs20 fun a25 r26 =>
 asS a25 fun x27 =>
 some (.s x27, m21))
 (fun d24 vs22 m23 =>
 none) := by rw [← G75_46]; kernel_rfl

noncomputable def G101 : FuncId → FunA := fun g => bif Nat.beq g 88 then fixed_guess else fun _ _ => none
theorem G101_88 : G101 88 = fixed_guess := by kernel_rfl
def A101 : Ann := .two (.leaf) (.two (.leaf) (.leaf))
def R101 : Slots := [(3, .i .i64)]
noncomputable def fixed_Restore_1 : FunA := denF Tryz.prog G101 Tryz.f101 A101 R101
theorem fixed_Restore_1_eq (p0 : SV) (p1 q1 o1 : Nat) (μ : AMem) : fixed_Restore_1 [.s p0, .s (.ptr p1 q1 o1)] μ =
 (μ.cell p1 q1 o1).bind fun x1 =>
 (fixed_guess [.s p0, .s x1] μ).bind fun r2 =>
 asI .i64 r2.1 fun n3 =>
 some (.s (.int .i64 n3), r2.2) := by rw [← G101_88]; kernel_rfl

noncomputable def G105 : FuncId → FunA := fun g => bif Nat.beq g 106 then lpc_Guess else fun _ _ => none
theorem G105_106 : G105 106 = lpc_Guess := by kernel_rfl
def A105 : Ann := .two (.leaf) (.two (.leaf) (.leaf))
def R105 : Slots := [(3, .i .i64)]
noncomputable def lpc_Restore_1 : FunA := denF Tryz.prog G105 Tryz.f105 A105 R105
theorem lpc_Restore_1_eq (p0 : SV) (p1 q1 o1 : Nat) (μ : AMem) : lpc_Restore_1 [.s p0, .s (.ptr p1 q1 o1)] μ =
 (μ.cell p1 q1 o1).bind fun x1 =>
 (lpc_Guess [.s p0, .s x1] μ).bind fun r2 =>
 asI .i64 r2.1 fun n3 =>
 some (.s (.int .i64 n3), r2.2) := by rw [← G105_106]; kernel_rfl

noncomputable def G100 : FuncId → FunA := fun g => bif Nat.beq g 37 then fixed_Check else bif Nat.beq g 36 then fixed_Sample else bif Nat.beq g 101 then fixed_Restore_1 else bif Nat.beq g 105 then lpc_Restore_1 else fun _ _ => none
theorem G100_37 : G100 37 = fixed_Check := by kernel_rfl
theorem G100_36 : G100 36 = fixed_Sample := by kernel_rfl
theorem G100_101 : G100 101 = fixed_Restore_1 := by kernel_rfl
theorem G100_105 : G100 105 = lpc_Restore_1 := by kernel_rfl
def A100 : Ann := .two (.leaf) (.two (.leaf) (.two (.two (.leaf) (.two (.leaf) (.two (.two (.leaf) (.leaf)) (.leaf)))) (.two (.two (.leaf) (.join [(8, .s)] [] [] (.loop [(8, .s), (26, .i .i64)] [2, 24, 25] [0] (.two (.leaf) (.two (.two (.leaf) (.leaf)) (.two (.join [(2, .s), (8, .s), (24, .s), (25, .i .i64), (26, .i .i64)] [] [] (.two (.leaf) (.two (.join [(35, .b)] [2, 8, 11, 24, 25, 26] [] (.leaf) (.two (.two (.leaf) (.leaf)) (.leaf))) (.two (.leaf) (.two (.two (.leaf) (.two (.two (.leaf) (.leaf)) (.leaf))) (.leaf))))) .leaf) (.leaf))))) .leaf)) (.two (.two (.leaf) (.two (.two (.leaf) (.leaf)) (.leaf))) (.two (.leaf) (.leaf))))))
def R100 : Slots := [(6, .s), (7, .i .i64)]
noncomputable def fixed_Run : FunA := denF Tryz.prog G100 Tryz.f100 A100 R100
noncomputable def fixed_Run_L1_B (os vs : List AV) (μ : AMem) : Option Res := joinK [(8, .s), (26, .i .i64)] vs (envO [2, 24, 25] os) fun e => den Tryz.prog G100 Tryz.f100.ntmps (cL (cL (cR (cL (cR (cR (cR (bodyOf Tryz.f100)))))))) (aL (aL (aR (aL (aR (aR (aR A100))))))) { ret := R100, exits := [(0, [(8, .s)])] } Res e μ fun ex e μ => some (ex, valsOf (Lv.at { ret := R100, exits := [(0, [(8, .s)])] } [(8, .s), (26, .i .i64)] ex) e, μ)
noncomputable def fixed_Run_L1 (os vs : List AV) (μ : AMem) : Option Res := loopA (fixed_Run_L1_B os) vs μ
theorem fixed_Run_L1_B_eq (s2 : SV) (s24 : SV) (s25 : Int) (s8 : SV) (s26 : Int) (μ : AMem) : fixed_Run_L1_B [.s s2, .s s24, .s (.int .i64 s25)] [.s s8, .s (.int .i64 s26)] μ =
 bif decide (s26 < s25) then
 (indS 1 (.s s24) s26 fun p24 =>
 loadAt μ p24 fun v25 =>
 asI .i64 v25 fun n26 =>
 seqJ
 (bif !(decide (n26 < (-1099511627776))) then
 (some (.normal, [.s (.bool (decide (n26 > 1099511627776)))], μ))
 else
 (some (.normal, [.s (.bool true)], μ)))
 (fun vs27 m28 =>
 headK vs27 fun a29 r30 =>
 asB a29 fun b31 =>
 bif b31 then
 (some (.ret, [.s .nilSlice, .s (.int .i64 8)], m28))
 else
 (callV G100 (.s s2) [.s s8] m28 fun v33 m34 =>
 asI .i64 v33 fun n35 =>
 (fixed_Sample [.s (.int .i64 (IntKind.wrap .i64 (n35 + n26)))] m34).bind fun r36 =>
 asB r36.1 fun b37 =>
 bif (!b37) then
 (some (.ret, [.s .nilSlice, .s (.int .i64 8)], r36.2))
 else
 (appendA 3 1 8 (r36.2.next + 3) ((r36.2.bump 5).set (r36.2.next + 2) (rowObj [.int .i64 (IntKind.wrap .i64 (n35 + n26))] 1 3 (some 1))) (.s s8) (.s (.slice (r36.2.next + 2) 0 0 1)) fun x38 m39 =>
 asS x38 fun x40 =>
 some (.normal, [.s x40, .s (.int .i64 (IntKind.wrap .i64 (s26 + 1)))], m39))))
 (fun vs41 m42 =>
 headK vs41 fun a46 r47 =>
 asS a46 fun x48 =>
 headK r47 fun a49 r50 =>
 asI .i64 a49 fun n51 =>
 some (.ret, [.s x48, .s (.int .i64 n51)], m42))
 (fun d45 vs43 m44 =>
 none))
 else
 (some (.exit 0, [.s s8], μ)) := by rw [← G100_36]; kernel_rfl
theorem fixed_Run_L1_eq (os vs : List AV) (μ : AMem) : fixed_Run_L1 os vs μ = (fixed_Run_L1_B os vs μ).bind fun r => match r.1 with | .normal => fixed_Run_L1 os r.2.1 r.2.2 | _ => some r := loopA_eq _ _ _
theorem fixed_Run_eq (p0 : SV) (p1 : SV) (p2 : SV) (μ : AMem) : fixed_Run [.s p0, .s p1, .s p2] μ =
 appendA 3 1 8 (μ.next + 1) (μ.bump 3) (.s .nilSlice) (.s p0) fun x1 m2 =>
 asS x1 fun x3 =>
 (lenS (.s p0)).bind fun l4 =>
 cutS 1 (.s p0) 0 (if 64 < ((l4 : Nat) : Int) then 64 else ((l4 : Nat) : Int)) fun x5 =>
 (fixed_Check [x5] m2).bind fun r6 =>
 asI .i64 r6.1 fun n7 =>
 bif (n7 != 0) then
 (some (.tuple [.s .nilSlice, .s (.int .i64 n7)], r6.2))
 else
 ((lenS (.s p1)).bind fun l8 =>
 seqJ (fixed_Run_L1 [.s p2, .s p1, .s (.int .i64 ((l8 : Nat) : Int))] [.s x3, .s (.int .i64 0)] r6.2)
 (fun _ _ => none)
 (fun vs9 m10 =>
 headK vs9 fun a14 r15 =>
 asS a14 fun x16 =>
 headK r15 fun a17 r18 =>
 asI .i64 a17 fun n19 =>
 some (.tuple [.s x16, .s (.int .i64 n19)], m10))
 (fun d13 vs11 m12 =>
 bif Nat.beq 0 d13 then (headK vs11 fun a20 r21 =>
 asS a20 fun x22 =>
 (lenS (.s x22)).bind fun l23 =>
 bif decide (((l23 : Nat) : Int) > 64) then
 (some (.tuple [.s .nilSlice, .s (.int .i64 4)], m12))
 else
 (some (.tuple [.s x22, .s (.int .i64 0)], m12))) else (none))) := by rw [← G100_37]; kernel_rfl

noncomputable def G74 : FuncId → FunA := fun g => bif Nat.beq g 87 then fixed_Coefficients else bif Nat.beq g 101 then fixed_Restore_1 else bif Nat.beq g 100 then fixed_Run else fun _ _ => none
theorem G74_87 : G74 87 = fixed_Coefficients := by kernel_rfl
theorem G74_101 : G74 101 = fixed_Restore_1 := by kernel_rfl
theorem G74_100 : G74 100 = fixed_Run := by kernel_rfl
def A74 : Ann := .two (.leaf) (.two (.two (.leaf) (.two (.two (.leaf) (.leaf)) (.leaf))) (.two (.leaf) (.two (.leaf) (.leaf))))
def R74 : Slots := [(4, .s), (5, .i .i64)]
noncomputable def fixed_Restore : FunA := denF Tryz.prog G74 Tryz.f74 A74 R74
theorem fixed_Restore_eq (p0 : SV) (p1 : SV) (μ : AMem) : fixed_Restore [.s p0, .s p1] μ =
 (lenS (.s p0)).bind fun l1 =>
 bif decide (((l1 : Nat) : Int) > 4) then
 (some (.tuple [.s .nilSlice, .s (.int .i64 1)], μ))
 else
 ((lenS (.s p0)).bind fun l2 =>
 (fixed_Coefficients [.s (.int .i64 ((l2 : Nat) : Int))] (μ.bump 5)).bind fun r3 =>
 asS r3.1 fun x4 =>
 ((r3.2.set (μ.next + 3) (rowObj [.nilSlice] 1 22 (some 1))).store (μ.next + 3) 0 0 [x4]).bind fun m5 =>
 (fixed_Run [.s p0, .s p1, .s (.func 101 [((μ.next + 3), 0, 0)])] m5).bind fun r6 =>
 extrK 0 r6.1 fun t7 =>
 asS t7 fun x8 =>
 extrK 1 r6.1 fun t9 =>
 asI .i64 t9 fun n10 =>
 some (.tuple [.s x8, .s (.int .i64 n10)], r6.2)) := by rw [← G74_87, ← G74_100]; kernel_rfl

noncomputable def G76 : FuncId → FunA := fun g => bif Nat.beq g 104 then lpc_May else bif Nat.beq g 105 then lpc_Restore_1 else bif Nat.beq g 100 then fixed_Run else fun _ _ => none
theorem G76_104 : G76 104 = lpc_May := by kernel_rfl
theorem G76_105 : G76 105 = lpc_Restore_1 := by kernel_rfl
theorem G76_100 : G76 100 = fixed_Run := by kernel_rfl
def A76 : Ann := .two (.leaf) (.two (.join [(17, .b)] [0, 1, 5] [] (.leaf) (.two (.two (.leaf) (.leaf)) (.leaf))) (.two (.leaf) (.leaf)))
def R76 : Slots := [(6, .s), (7, .i .i64)]
noncomputable def lpc_Restore : FunA := denF Tryz.prog G76 Tryz.f76 A76 R76
theorem lpc_Restore_eq (p0 : SV) (p1 : SV) (p2 : SV) (μ : AMem) : lpc_Restore [.s p0, .s p1, .s p2] μ =
 seqJ
 ((((μ.bump 3).set (μ.next + 0) (rowObj [p2] 1 22 (some 1))).cell (μ.next + 0) 0 0).bind fun x1 =>
 (lpc_May [.s x1] ((μ.bump 3).set (μ.next + 0) (rowObj [p2] 1 22 (some 1)))).bind fun r2 =>
 asB r2.1 fun b3 =>
 bif !(!b3) then
 ((lenS (.s p0)).bind fun l4 =>
 (r2.2.cell (μ.next + 0) 0 0).bind fun x5 =>
 (lenS (.s x5)).bind fun l6 =>
 some (.normal, [.s (.bool (((l4 : Nat) : Int) != ((l6 : Nat) : Int)))], r2.2))
 else
 (some (.normal, [.s (.bool true)], r2.2)))
 (fun vs7 m8 =>
 headK vs7 fun a9 r10 =>
 asB a9 fun b11 =>
 bif b11 then
 (some (.tuple [.s .nilSlice, .s (.int .i64 1)], m8))
 else
 ((fixed_Run [.s p0, .s p1, .s (.func 105 [((μ.next + 0), 0, 0)])] m8).bind fun r12 =>
 extrK 0 r12.1 fun t13 =>
 asS t13 fun x14 =>
 extrK 1 r12.1 fun t15 =>
 asI .i64 t15 fun n16 =>
 some (.tuple [.s x14, .s (.int .i64 n16)], r12.2)))
 (fun vs17 m18 =>
 headK vs17 fun a22 r23 =>
 asS a22 fun x24 =>
 headK r23 fun a25 r26 =>
 asI .i64 a25 fun n27 =>
 some (.tuple [.s x24, .s (.int .i64 n27)], m18))
 (fun d21 vs19 m20 =>
 none) := by rw [← G76_104, ← G76_100]; kernel_rfl

noncomputable def G47 : FuncId → FunA := fun g => bif Nat.beq g 73 then frame_reader_samples else bif Nat.beq g 75 then frame_reader_residuals else bif Nat.beq g 74 then fixed_Restore else bif Nat.beq g 46 then frame_reader_get else bif Nat.beq g 76 then lpc_Restore else fun _ _ => none
theorem G47_73 : G47 73 = frame_reader_samples := by kernel_rfl
theorem G47_75 : G47 75 = frame_reader_residuals := by kernel_rfl
theorem G47_74 : G47 74 = fixed_Restore := by kernel_rfl
theorem G47_46 : G47 46 = frame_reader_get := by kernel_rfl
theorem G47_76 : G47 76 = lpc_Restore := by kernel_rfl
def A47 : Ann := .two (.leaf) (.two (.join [] [] [] (.join [(12, .b)] [0, 1, 2] [] (.leaf) (.two (.two (.leaf) (.leaf)) (.two (.leaf) (.two (.two (.leaf) (.two (.join [(8, .s)] [] [] (.loop [(8, .s)] [2] [1] (.two (.two (.leaf) (.two (.leaf) (.leaf))) (.join [(2, .i .i64), (8, .s)] [] [] (.leaf) .leaf))) .leaf) (.two (.leaf) (.leaf)))) (.two (.leaf) (.two (.two (.leaf) (.leaf)) (.join [(41, .b)] [0, 1, 2] [] (.leaf) (.two (.two (.leaf) (.two (.leaf) (.leaf))) (.join [(68, .b)] [0, 1, 2] [] (.leaf) (.two (.two (.leaf) (.two (.leaf) (.two (.two (.leaf) (.join [(0, .s), (2, .i .i64), (10, .s), (11, .s)] [] [] (.loop [(11, .s), (87, .i .i64)] [0, 2, 10, 86] [3] (.two (.leaf) (.two (.two (.leaf) (.leaf)) (.two (.join [(0, .s), (2, .i .i64), (10, .s), (11, .s), (86, .i .i64), (87, .i .i64)] [] [] (.leaf) .leaf) (.leaf))))) .leaf)) (.two (.leaf) (.leaf))))) (.leaf))))))))))) .leaf) (.two (.leaf) (.leaf)))
def R47 : Slots := [(6, .s), (7, .i .i64)]
noncomputable def frame_reader_body : FunA := denF Tryz.prog G47 Tryz.f47 A47 R47
noncomputable def frame_reader_body_L2_B (os vs : List AV) (μ : AMem) : Option Res := joinK [(11, .s), (87, .i .i64)] vs (envO [0, 2, 10, 86] os) fun e => den Tryz.prog G47 Tryz.f47.ntmps (cL (cL (cR (cL (cR (cR (cL (cR (cR (cR (cR (cR (cR (cR (cR (cR (cL (cL (cR (bodyOf Tryz.f47)))))))))))))))))))) (aL (aL (aR (aL (aR (aR (aL (aR (aR (aR (aR (aR (aR (aR (aR (aR (aL (aL (aR A47))))))))))))))))))) { ret := R47, exits := [(3, [(0, .s), (2, .i .i64), (10, .s), (11, .s)]), (0, [])] } Res e μ fun ex e μ => some (ex, valsOf (Lv.at { ret := R47, exits := [(3, [(0, .s), (2, .i .i64), (10, .s), (11, .s)]), (0, [])] } [(11, .s), (87, .i .i64)] ex) e, μ)
noncomputable def frame_reader_body_L2 (os vs : List AV) (μ : AMem) : Option Res := loopA (frame_reader_body_L2_B os) vs μ
noncomputable def frame_reader_body_L1_B (os vs : List AV) (μ : AMem) : Option Res := joinK [(8, .s)] vs (envO [2] os) fun e => den Tryz.prog G47 Tryz.f47.ntmps (cL (cL (cL (cR (cL (cR (cR (cR (cL (cL (cR (bodyOf Tryz.f47)))))))))))) (aL (aL (aL (aR (aL (aR (aR (aR (aL (aL (aR A47))))))))))) { ret := R47, exits := [(1, [(8, .s)]), (0, [])] } Res e μ fun ex e μ => some (ex, valsOf (Lv.at { ret := R47, exits := [(1, [(8, .s)]), (0, [])] } [(8, .s)] ex) e, μ)
noncomputable def frame_reader_body_L1 (os vs : List AV) (μ : AMem) : Option Res := loopA (frame_reader_body_L1_B os) vs μ
theorem frame_reader_body_L2_B_eq (s0 t0 u0 : Nat) (s2 : Int) (s10 : SV) (s86 : Int) (s11 : SV) (s87 : Int) (μ : AMem) : frame_reader_body_L2_B [.s (.ptr s0 t0 u0), .s (.int .i64 s2), .s s10, .s (.int .i64 s86)] [.s s11, .s (.int .i64 s87)] μ =
 bif decide (s87 < s86) then
 ((frame_reader_get [.s (.ptr s0 t0 u0), .s (.int .i64 16)] (μ.bump 7)).bind fun r118 =>
 asI .i64 r118.1 fun n119 =>
 appendA 3 1 8 (μ.next + 5) (r118.2.set (μ.next + 4) (rowObj [.int .i64 (IntKind.wrap .i64 (n119 - 32768))] 1 3 (some 1))) (.s s11) (.s (.slice (μ.next + 4) 0 0 1)) fun x120 m121 =>
 asS x120 fun x122 =>
 some (.normal, [.s x122, .s (.int .i64 (IntKind.wrap .i64 (s87 + 1)))], m121))
 else
 (some (.exit 3, [.s (.ptr s0 t0 u0), .s (.int .i64 s2), .s s10, .s s11], μ)) := by rw [← G47_46]; kernel_rfl
theorem frame_reader_body_L2_eq (os vs : List AV) (μ : AMem) : frame_reader_body_L2 os vs μ = (frame_reader_body_L2_B os vs μ).bind fun r => match r.1 with | .normal => frame_reader_body_L2 os r.2.1 r.2.2 | _ => some r := loopA_eq _ _ _
theorem frame_reader_body_L1_B_eq (s2 : Int) (s8 : SV) (μ : AMem) : frame_reader_body_L1_B [.s (.int .i64 s2)] [.s s8] μ =
 (lenS (.s s8)).bind fun l111 =>
 bif decide (((l111 : Nat) : Int) < s2) then
 (indS 1 (.s s8) 0 fun p112 =>
 loadAt (μ.bump 7) p112 fun v113 =>
 asI .i64 v113 fun n114 =>
 appendA 3 1 8 (μ.next + 5) ((μ.bump 7).set (μ.next + 4) (rowObj [.int .i64 n114] 1 3 (some 1))) (.s s8) (.s (.slice (μ.next + 4) 0 0 1)) fun x115 m116 =>
 asS x115 fun x117 =>
 some (.normal, [.s x117], m116))
 else
 (some (.exit 1, [.s s8], μ)) := by kernel_rfl
theorem frame_reader_body_L1_eq (os vs : List AV) (μ : AMem) : frame_reader_body_L1 os vs μ = (frame_reader_body_L1_B os vs μ).bind fun r => match r.1 with | .normal => frame_reader_body_L1 os r.2.1 r.2.2 | _ => some r := loopA_eq _ _ _
theorem frame_reader_body_eq (p0 q0 o0 : Nat) (p1 : Int) (p2 : Int) (μ : AMem) : frame_reader_body [.s (.ptr p0 q0 o0), .s (.int .i64 p1), .s (.int .i64 p2)] μ =
 seqJ
 (bif !(decide (p2 < 1)) then
 (some (.normal, [.s (.bool (decide (p2 > 64)))], μ))
 else
 (some (.normal, [.s (.bool true)], μ)))
 (fun vs1 m2 =>
 headK vs1 fun a3 r4 =>
 asB a3 fun b5 =>
 bif b5 then
 (some (.tuple [.s .nilSlice, .s (.int .i64 2)], m2))
 else
 (bif (p1 == 0) then
 ((frame_reader_samples [.s (.ptr p0 q0 o0), .s (.int .i64 1)] m2).bind fun r6 =>
 asS r6.1 fun x7 =>
 seqJ (frame_reader_body_L1 [.s (.int .i64 p2)] [.s x7] r6.2)
 (fun _ _ => none)
 (fun vs8 m9 =>
 headK vs8 fun a13 r14 =>
 asS a13 fun x15 =>
 headK r14 fun a16 r17 =>
 asI .i64 a16 fun n18 =>
 some (.tuple [.s x15, .s (.int .i64 n18)], m9))
 (fun d12 vs10 m11 =>
 bif Nat.beq 1 d12 then (headK vs10 fun a19 r20 =>
 asS a19 fun x21 =>
 some (.tuple [.s x21, .s (.int .i64 0)], m11)) else (none)))
 else
 (bif (p1 == 1) then
 ((frame_reader_samples [.s (.ptr p0 q0 o0), .s (.int .i64 p2)] m2).bind fun r22 =>
 asS r22.1 fun x23 =>
 some (.tuple [.s x23, .s (.int .i64 0)], r22.2))
 else
 (seqJ
 (bif decide (p1 ≥ 2) then
 (bif decide (p1 ≤ 6) then
 (some (.normal, [.s (.bool (decide (p2 ≥ (IntKind.wrap .i64 (p1 - 2)))))], m2))
 else
 (some (.normal, [.s (.bool false)], m2)))
 else
 (some (.normal, [.s (.bool false)], m2)))
 (fun vs24 m25 =>
 headK vs24 fun a26 r27 =>
 asB a26 fun b28 =>
 bif b28 then
 ((frame_reader_samples [.s (.ptr p0 q0 o0), .s (.int .i64 (IntKind.wrap .i64 (p1 - 2)))] m25).bind fun r29 =>
 asS r29.1 fun x30 =>
 (lenS (.s x30)).bind fun l31 =>
 (frame_reader_residuals [.s (.ptr p0 q0 o0), .s (.int .i64 (IntKind.wrap .i64 (p2 - ((l31 : Nat) : Int))))] r29.2).bind fun r32 =>
 asS r32.1 fun x33 =>
 (fixed_Restore [.s x30, .s x33] r32.2).bind fun r34 =>
 extrK 0 r34.1 fun t35 =>
 asS t35 fun x36 =>
 extrK 1 r34.1 fun t37 =>
 asI .i64 t37 fun n38 =>
 some (.tuple [.s x36, .s (.int .i64 n38)], r34.2))
 else
 (seqJ
 (bif decide (p1 > 6) then
 (bif decide (p1 ≤ 18) then
 (some (.normal, [.s (.bool (decide (p2 > (IntKind.wrap .i64 (p1 - 6)))))], m25))
 else
 (some (.normal, [.s (.bool false)], m25)))
 else
 (some (.normal, [.s (.bool false)], m25)))
 (fun vs39 m40 =>
 headK vs39 fun a41 r42 =>
 asB a41 fun b43 =>
 bif b43 then
 ((frame_reader_samples [.s (.ptr p0 q0 o0), .s (.int .i64 (IntKind.wrap .i64 (p1 - 6)))] m40).bind fun r44 =>
 asS r44.1 fun x45 =>
 (lenS (.s x45)).bind fun l46 =>
 seqJ (frame_reader_body_L2 [.s (.ptr p0 q0 o0), .s (.int .i64 p2), .s x45, .s (.int .i64 ((l46 : Nat) : Int))] [.s .nilSlice, .s (.int .i64 0)] r44.2)
 (fun _ _ => none)
 (fun vs47 m48 =>
 headK vs47 fun a52 r53 =>
 asS a52 fun x54 =>
 headK r53 fun a55 r56 =>
 asI .i64 a55 fun n57 =>
 some (.tuple [.s x54, .s (.int .i64 n57)], m48))
 (fun d51 vs49 m50 =>
 bif Nat.beq 3 d51 then (headK vs49 fun a58 r59 =>
 asS a58 fun x60 =>
 headK r59 fun a61 r62 =>
 asI .i64 a61 fun n63 =>
 headK r62 fun a64 r65 =>
 asS a64 fun x66 =>
 headK r65 fun a67 r68 =>
 asS a67 fun x69 =>
 (lenS (.s x66)).bind fun l70 =>
 (frame_reader_residuals [.s x60, .s (.int .i64 (IntKind.wrap .i64 (n63 - ((l70 : Nat) : Int))))] m50).bind fun r71 =>
 asS r71.1 fun x72 =>
 (lpc_Restore [.s x66, .s x72, .s x69] r71.2).bind fun r73 =>
 extrK 0 r73.1 fun t74 =>
 asS t74 fun x75 =>
 extrK 1 r73.1 fun t76 =>
 asI .i64 t76 fun n77 =>
 some (.tuple [.s x75, .s (.int .i64 n77)], r73.2)) else (none)))
 else
 (some (.tuple [.s .nilSlice, .s (.int .i64 2)], m40)))
 (fun vs78 m79 =>
 headK vs78 fun a83 r84 =>
 asS a83 fun x85 =>
 headK r84 fun a86 r87 =>
 asI .i64 a86 fun n88 =>
 some (.tuple [.s x85, .s (.int .i64 n88)], m79))
 (fun d82 vs80 m81 =>
 none)))
 (fun vs89 m90 =>
 headK vs89 fun a94 r95 =>
 asS a94 fun x96 =>
 headK r95 fun a97 r98 =>
 asI .i64 a97 fun n99 =>
 some (.tuple [.s x96, .s (.int .i64 n99)], m90))
 (fun d93 vs91 m92 =>
 none)))))
 (fun vs100 m101 =>
 headK vs100 fun a105 r106 =>
 asS a105 fun x107 =>
 headK r106 fun a108 r109 =>
 asI .i64 a108 fun n110 =>
 some (.tuple [.s x107, .s (.int .i64 n110)], m101))
 (fun d104 vs102 m103 =>
 none) := by rw [← G47_73, ← G47_75, ← G47_74, ← G47_76]; kernel_rfl

noncomputable def G48 : FuncId → FunA := fun g => bif Nat.beq g 77 then bits_Reader_Left else bif Nat.beq g 78 then bits_Reader_digit else fun _ _ => none
theorem G48_77 : G48 77 = bits_Reader_Left := by kernel_rfl
theorem G48_78 : G48 78 = bits_Reader_digit := by kernel_rfl
def A48 : Ann := .two (.leaf) (.two (.two (.leaf) (.join [] [] [] (.loop [(6, .i .i64)] [0, 5] [0] (.two (.leaf) (.two (.two (.leaf) (.leaf)) (.two (.join [(0, .s), (5, .i .i64), (6, .i .i64)] [] [] (.two (.leaf) (.two (.leaf) (.two (.two (.leaf) (.leaf)) (.leaf)))) .leaf) (.leaf))))) .leaf)) (.two (.leaf) (.leaf)))
def R48 : Slots := [(2, .b)]
noncomputable def bits_Reader_Rest : FunA := denF Tryz.prog G48 Tryz.f48 A48 R48
noncomputable def bits_Reader_Rest_L1_B (os vs : List AV) (μ : AMem) : Option Res := joinK [(6, .i .i64)] vs (envO [0, 5] os) fun e => den Tryz.prog G48 Tryz.f48.ntmps (cL (cL (cR (cL (cR (bodyOf Tryz.f48)))))) (aL (aL (aR (aL (aR A48))))) { ret := R48, exits := [(0, [])] } Res e μ fun ex e μ => some (ex, valsOf (Lv.at { ret := R48, exits := [(0, [])] } [(6, .i .i64)] ex) e, μ)
noncomputable def bits_Reader_Rest_L1 (os vs : List AV) (μ : AMem) : Option Res := loopA (bits_Reader_Rest_L1_B os) vs μ
theorem bits_Reader_Rest_L1_B_eq (s0 t0 u0 : Nat) (s5 : Int) (s6 : Int) (μ : AMem) : bits_Reader_Rest_L1_B [.s (.ptr s0 t0 u0), .s (.int .i64 s5)] [.s (.int .i64 s6)] μ =
 bif decide (s6 < s5) then
 ((bits_Reader_digit [.s (.ptr s0 t0 u0), .s (.int .i64 s6)] μ).bind fun r11 =>
 asI .i64 r11.1 fun n12 =>
 bif (n12 == 1) then
 (some (.ret, [.s (.bool false)], r11.2))
 else
 (some (.normal, [.s (.int .i64 (IntKind.wrap .i64 (s6 + 1)))], r11.2)))
 else
 (some (.exit 0, [], μ)) := by rw [← G48_78]; kernel_rfl
theorem bits_Reader_Rest_L1_eq (os vs : List AV) (μ : AMem) : bits_Reader_Rest_L1 os vs μ = (bits_Reader_Rest_L1_B os vs μ).bind fun r => match r.1 with | .normal => bits_Reader_Rest_L1 os r.2.1 r.2.2 | _ => some r := loopA_eq _ _ _
theorem bits_Reader_Rest_eq (p0 q0 o0 : Nat) (μ : AMem) : bits_Reader_Rest [.s (.ptr p0 q0 o0)] μ =
 (bits_Reader_Left [.s (.ptr p0 q0 o0)] μ).bind fun r1 =>
 asI .i64 r1.1 fun n2 =>
 seqJ (bits_Reader_Rest_L1 [.s (.ptr p0 q0 o0), .s (.int .i64 n2)] [.s (.int .i64 0)] r1.2)
 (fun _ _ => none)
 (fun vs3 m4 =>
 headK vs3 fun a8 r9 =>
 asB a8 fun b10 =>
 some (.s (.bool b10), m4))
 (fun d7 vs5 m6 =>
 bif Nat.beq 0 d7 then (some (.s (.bool true), m6)) else (none)) := by rw [← G48_77]; kernel_rfl

noncomputable def G30 : FuncId → FunA := fun g => bif Nat.beq g 45 then bits_NewReader else bif Nat.beq g 46 then frame_reader_get else bif Nat.beq g 47 then frame_reader_body else bif Nat.beq g 48 then bits_Reader_Rest else fun _ _ => none
theorem G30_45 : G30 45 = bits_NewReader := by kernel_rfl
theorem G30_46 : G30 46 = frame_reader_get := by kernel_rfl
theorem G30_47 : G30 47 = frame_reader_body := by kernel_rfl
theorem G30_48 : G30 48 = bits_Reader_Rest := by kernel_rfl
def A30 : Ann := .two (.leaf) (.two (.leaf) (.two (.leaf) (.two (.leaf) (.two (.join [(39, .b)] [7] [] (.leaf) (.two (.two (.leaf) (.leaf)) (.leaf))) (.two (.leaf) (.leaf))))))
def R30 : Slots := [(2, .s), (3, .i .i64)]
noncomputable def frame_Decode : FunA := denF Tryz.prog G30 Tryz.f30 A30 R30
theorem frame_Decode_eq (p0 : SV) (μ : AMem) : frame_Decode [.s p0] μ =
 (bits_NewReader [.s p0] (μ.bump 5)).bind fun r1 =>
 asS r1.1 fun x2 =>
 (frame_reader_get [.s (.ptr (μ.next + 3) 0 0), .s (.int .i64 8)] (r1.2.set (μ.next + 3) (rowObj [x2, .bool false] 2 92 (some 1)))).bind fun r3 =>
 asI .i64 r3.1 fun n4 =>
 (frame_reader_get [.s (.ptr (μ.next + 3) 0 0), .s (.int .i64 8)] r3.2).bind fun r5 =>
 asI .i64 r5.1 fun n6 =>
 (frame_reader_body [.s (.ptr (μ.next + 3) 0 0), .s (.int .i64 n4), .s (.int .i64 n6)] r5.2).bind fun r7 =>
 extrK 0 r7.1 fun t8 =>
 asS t8 fun x9 =>
 extrK 1 r7.1 fun t10 =>
 asI .i64 t10 fun n11 =>
 seqJ
 ((r7.2.cell (μ.next + 3) 0 (0 + 1)).bind fun x12 =>
 asB (.s x12) fun b13 =>
 bif !b13 then
 (bif !(n11 != 0) then
 ((r7.2.cell (μ.next + 3) 0 (0 + 0)).bind fun x14 =>
 (bits_Reader_Rest [.s x14] r7.2).bind fun r15 =>
 asB r15.1 fun b16 =>
 some (.normal, [.s (.bool (!b16))], r15.2))
 else
 (some (.normal, [.s (.bool true)], r7.2)))
 else
 (some (.normal, [.s (.bool true)], r7.2)))
 (fun vs17 m18 =>
 headK vs17 fun a19 r20 =>
 asB a19 fun b21 =>
 bif b21 then
 (some (.tuple [.s .nilSlice, .s (.int .i64 2)], m18))
 else
 (some (.tuple [.s x9, .s (.int .i64 0)], m18)))
 (fun vs22 m23 =>
 headK vs22 fun a27 r28 =>
 asS a27 fun x29 =>
 headK r28 fun a30 r31 =>
 asI .i64 a30 fun n32 =>
 some (.tuple [.s x29, .s (.int .i64 n32)], m23))
 (fun d26 vs24 m25 =>
 none) := by rw [← G30_45, ← G30_46, ← G30_47, ← G30_48]; kernel_rfl

noncomputable def G14 : FuncId → FunA := fun g => bif Nat.beq g 29 then block_Coder_unseal else bif Nat.beq g 30 then frame_Decode else bif Nat.beq g 31 then atomic_Int64_Add else fun _ _ => none
theorem G14_29 : G14 29 = block_Coder_unseal := by kernel_rfl
theorem G14_30 : G14 30 = frame_Decode := by kernel_rfl
theorem G14_31 : G14 31 = atomic_Int64_Add := by kernel_rfl
def A14 : Ann := .two (.leaf) (.two (.leaf) (.two (.two (.leaf) (.two (.two (.leaf) (.leaf)) (.leaf))) (.two (.leaf) (.join [] [7, 8] [] (.two (.leaf) (.two (.leaf) (.leaf))) (.two (.leaf) (.leaf))))))
def R14 : Slots := [(4, .s), (5, .i .i64)]
noncomputable def block_Coder_Open : FunA := denF Tryz.prog G14 Tryz.f14 A14 R14
theorem block_Coder_Open_eq (p0 q0 o0 : Nat) (p1 : SV) (μ : AMem) : block_Coder_Open [.s (.ptr p0 q0 o0), .s p1] μ =
 (block_Coder_unseal [.s (.ptr p0 q0 o0), .s p1] μ).bind fun r1 =>
 extrK 0 r1.1 fun t2 =>
 asS t2 fun x3 =>
 extrK 1 r1.1 fun t4 =>
 asI .i64 t4 fun n5 =>
 bif (n5 != 0) then
 (some (.tuple [.s .nilSlice, .s (.int .i64 n5)], r1.2))
 else
 ((frame_Decode [.s x3] r1.2).bind fun r6 =>
 extrK 0 r6.1 fun t7 =>
 asS t7 fun x8 =>
 extrK 1 r6.1 fun t9 =>
 asI .i64 t9 fun n10 =>
 seqJ
 (bif (n10 == 0) then
 ((atomic_Int64_Add [.s (.ptr p0 q0 (o0 + 2)), .s (.int .i64 1)] r6.2).bind fun r11 =>
 asI .i64 r11.1 fun n12 =>
 some (.normal, [], r11.2))
 else
 (some (.normal, [], r6.2)))
 (fun vs13 m14 =>
 some (.tuple [.s x8, .s (.int .i64 n10)], m14))
 (fun vs15 m16 =>
 headK vs15 fun a20 r21 =>
 asS a20 fun x22 =>
 headK r21 fun a23 r24 =>
 asI .i64 a23 fun n25 =>
 some (.tuple [.s x22, .s (.int .i64 n25)], m16))
 (fun d19 vs17 m18 =>
 none)) := by rw [← G14_29, ← G14_30, ← G14_31]; kernel_rfl

noncomputable def G32 : FuncId → FunA := fun _ _ _ => none
noncomputable def atomic_Int64_Load : FunA := loadI64F

noncomputable def G15 : FuncId → FunA := fun g => bif Nat.beq g 32 then atomic_Int64_Load else fun _ _ => none
theorem G15_32 : G15 32 = atomic_Int64_Load := by kernel_rfl
def A15 : Ann := .two (.leaf) (.two (.ord [0, 1, 2, 3, 4, 5, 6, 7, 8, 9]) (.leaf))
def R15 : Slots := [(2, .i .i64), (3, .i .i64)]
noncomputable def block_Coder_Counts : FunA := denF Tryz.prog G15 Tryz.f15 A15 R15
theorem block_Coder_Counts_eq (p0 q0 o0 : Nat) (μ : AMem) : block_Coder_Counts [.s (.ptr p0 q0 o0)] μ =
 (atomic_Int64_Load [.s (.ptr p0 q0 (o0 + 1))] μ).bind fun r1 =>
 asI .i64 r1.1 fun n2 =>
 (atomic_Int64_Load [.s (.ptr p0 q0 (o0 + 2))] r1.2).bind fun r3 =>
 asI .i64 r3.1 fun n4 =>
 some (.tuple [.s (.int .i64 n2), .s (.int .i64 n4)], r3.2) := by rw [← G15_32]; kernel_rfl

noncomputable def G16 : FuncId → FunA := fun _ _ _ => none
def A16 : Ann := .two (.leaf) (.two (.leaf) (.leaf))
def R16 : Slots := [(2, .s)]
noncomputable def overdubkeep_Copy_int : FunA := denF Tryz.prog G16 Tryz.f16 A16 R16
theorem overdubkeep_Copy_int_eq (p0 : SV) (μ : AMem) : overdubkeep_Copy_int [.s p0] μ =
 appendA 3 1 8 (μ.next + 1) (μ.bump 3) (.s .nilSlice) (.s p0) fun x1 m2 =>
 asS x1 fun x3 =>
 some (.s x3, m2) := by kernel_rfl

noncomputable def G17 : FuncId → FunA := fun _ _ _ => none
def A17 : Ann := .two (.leaf) (.two (.two (.leaf) (.two (.two (.leaf) (.leaf)) (.leaf))) (.two (.two (.leaf) (.join [] [] [] (.loop [(5, .i .i64)] [0, 1] [0] (.two (.two (.leaf) (.two (.leaf) (.leaf))) (.two (.join [(0, .s), (1, .s), (5, .i .i64)] [] [] (.two (.ord [0, 1, 2, 3, 4, 5, 6, 7, 8]) (.two (.two (.leaf) (.leaf)) (.leaf))) .leaf) (.leaf)))) .leaf)) (.two (.leaf) (.leaf))))
def R17 : Slots := [(4, .b)]
noncomputable def overdubkeep_Same_int : FunA := denF Tryz.prog G17 Tryz.f17 A17 R17
noncomputable def overdubkeep_Same_int_L1_B (os vs : List AV) (μ : AMem) : Option Res := joinK [(5, .i .i64)] vs (envO [0, 1] os) fun e => den Tryz.prog G17 Tryz.f17.ntmps (cL (cL (cR (cL (cR (cR (bodyOf Tryz.f17))))))) (aL (aL (aR (aL (aR (aR A17)))))) { ret := R17, exits := [(0, [])] } Res e μ fun ex e μ => some (ex, valsOf (Lv.at { ret := R17, exits := [(0, [])] } [(5, .i .i64)] ex) e, μ)
noncomputable def overdubkeep_Same_int_L1 (os vs : List AV) (μ : AMem) : Option Res := loopA (overdubkeep_Same_int_L1_B os) vs μ
theorem overdubkeep_Same_int_L1_B_eq (s0 : SV) (s1 : SV) (s5 : Int) (μ : AMem) : overdubkeep_Same_int_L1_B [.s s0, .s s1] [.s (.int .i64 s5)] μ =
 (lenS (.s s0)).bind fun l11 =>
 bif decide (s5 < ((l11 : Nat) : Int)) then
 (indS 1 (.s s0) s5 fun p12 =>
 loadAt μ p12 fun v13 =>
 asI .i64 v13 fun n14 =>
 indS 1 (.s s1) s5 fun p15 =>
 loadAt μ p15 fun v16 =>
 asI .i64 v16 fun n17 =>
 bif (n14 != n17) then
 (some (.ret, [.s (.bool false)], μ))
 else
 (some (.normal, [.s (.int .i64 (IntKind.wrap .i64 (s5 + 1)))], μ)))
 else
 (some (.exit 0, [], μ)) := by kernel_rfl
theorem overdubkeep_Same_int_L1_eq (os vs : List AV) (μ : AMem) : overdubkeep_Same_int_L1 os vs μ = (overdubkeep_Same_int_L1_B os vs μ).bind fun r => match r.1 with | .normal => overdubkeep_Same_int_L1 os r.2.1 r.2.2 | _ => some r := loopA_eq _ _ _
theorem overdubkeep_Same_int_eq (p0 : SV) (p1 : SV) (μ : AMem) : overdubkeep_Same_int [.s p0, .s p1] μ =
 (lenS (.s p0)).bind fun l1 =>
 (lenS (.s p1)).bind fun l2 =>
 bif (((l1 : Nat) : Int) != ((l2 : Nat) : Int)) then
 (some (.s (.bool false), μ))
 else
 (seqJ (overdubkeep_Same_int_L1 [.s p0, .s p1] [.s (.int .i64 0)] μ)
 (fun _ _ => none)
 (fun vs3 m4 =>
 headK vs3 fun a8 r9 =>
 asB a8 fun b10 =>
 some (.s (.bool b10), m4))
 (fun d7 vs5 m6 =>
 bif Nat.beq 0 d7 then (some (.s (.bool true), m6)) else (none))) := by kernel_rfl

noncomputable def G4 : FuncId → FunA := fun g => bif Nat.beq g 6 then overdublaw08_Tone else bif Nat.beq g 7 then overdubkeep_Samples else bif Nat.beq g 8 then block_New else bif Nat.beq g 13 then block_Coder_All else bif Nat.beq g 14 then block_Coder_Open else bif Nat.beq g 15 then block_Coder_Counts else bif Nat.beq g 16 then overdubkeep_Copy_int else bif Nat.beq g 17 then overdubkeep_Same_int else bif Nat.beq g 12 then overdublaw09_wakes else fun _ _ => none
theorem G4_6 : G4 6 = overdublaw08_Tone := by kernel_rfl
theorem G4_7 : G4 7 = overdubkeep_Samples := by kernel_rfl
theorem G4_8 : G4 8 = block_New := by kernel_rfl
theorem G4_13 : G4 13 = block_Coder_All := by kernel_rfl
theorem G4_14 : G4 14 = block_Coder_Open := by kernel_rfl
theorem G4_15 : G4 15 = block_Coder_Counts := by kernel_rfl
theorem G4_16 : G4 16 = overdubkeep_Copy_int := by kernel_rfl
theorem G4_17 : G4 17 = overdubkeep_Same_int := by kernel_rfl
theorem G4_12 : G4 12 = overdublaw09_wakes := by kernel_rfl
def A4 : Ann := .two (.leaf) (.two (.leaf) (.two (.two (.leaf) (.join [(7, .s)] [] [] (.loop [(7, .s), (8, .i .i64)] [0, 1, 2] [0] (.two (.join [(30, .b)] [0, 1, 2, 7, 8] [] (.leaf) (.two (.leaf) (.leaf))) (.join [(7, .s)] [0, 1, 2, 8] [] (.join [(0, .s), (1, .i .i64), (2, .i .i64), (7, .s), (8, .i .i64)] [] [] (.two (.leaf) (.two (.leaf) (.leaf))) .leaf) (.leaf)))) .leaf)) (.two (.leaf) (.two (.two (.leaf) (.two (.two (.leaf) (.leaf)) (.leaf))) (.two (.leaf) (.two (.join [(73, .b)] [7, 9, 10, 11] [] (.leaf) (.two (.two (.leaf) (.leaf)) (.leaf))) (.two (.leaf) (.two (.two (.leaf) (.join [(7, .s), (9, .s), (10, .s), (13, .s)] [] [] (.loop [(13, .s), (76, .i .i64)] [7, 9, 10, 11, 75] [2] (.two (.leaf) (.two (.two (.leaf) (.leaf)) (.two (.join [(7, .s), (9, .s), (10, .s), (11, .s), (13, .s), (75, .i .i64), (76, .i .i64)] [] [] (.two (.leaf) (.two (.leaf) (.two (.join [(119, .b)] [7, 9, 10, 11, 13, 15, 75, 76] [] (.leaf) (.two (.two (.leaf) (.leaf)) (.leaf))) (.leaf)))) .leaf) (.leaf))))) .leaf)) (.two (.leaf) (.two (.leaf) (.two (.leaf) (.two (.leaf) (.leaf)))))))))))))
def R4 : Slots := [(6, .b)]
noncomputable def overdublaw09_BlockAll : FunA := denF Tryz.prog G4 Tryz.f4 A4 R4
noncomputable def overdublaw09_BlockAll_L2_B (os vs : List AV) (μ : AMem) : Option Res := joinK [(13, .s), (76, .i .i64)] vs (envO [7, 9, 10, 11, 75] os) fun e => den Tryz.prog G4 Tryz.f4.ntmps (cL (cL (cR (cL (cR (cR (cR (cR (cR (cR (cR (cR (bodyOf Tryz.f4))))))))))))) (aL (aL (aR (aL (aR (aR (aR (aR (aR (aR (aR (aR A4)))))))))))) { ret := R4, exits := [(2, [(7, .s), (9, .s), (10, .s), (13, .s)])] } Res e μ fun ex e μ => some (ex, valsOf (Lv.at { ret := R4, exits := [(2, [(7, .s), (9, .s), (10, .s), (13, .s)])] } [(13, .s), (76, .i .i64)] ex) e, μ)
noncomputable def overdublaw09_BlockAll_L2 (os vs : List AV) (μ : AMem) : Option Res := loopA (overdublaw09_BlockAll_L2_B os) vs μ
noncomputable def overdublaw09_BlockAll_L1_B (os vs : List AV) (μ : AMem) : Option Res := joinK [(7, .s), (8, .i .i64)] vs (envO [0, 1, 2] os) fun e => den Tryz.prog G4 Tryz.f4.ntmps (cL (cL (cR (cL (cR (cR (bodyOf Tryz.f4))))))) (aL (aL (aR (aL (aR (aR A4)))))) { ret := R4, exits := [(0, [(7, .s)])] } Res e μ fun ex e μ => some (ex, valsOf (Lv.at { ret := R4, exits := [(0, [(7, .s)])] } [(7, .s), (8, .i .i64)] ex) e, μ)
noncomputable def overdublaw09_BlockAll_L1 (os vs : List AV) (μ : AMem) : Option Res := loopA (overdublaw09_BlockAll_L1_B os) vs μ
theorem overdublaw09_BlockAll_L2_B_eq (s7 : SV) (s9 : SV) (s10 : SV) (s11 : SV) (s75 : Int) (s13 : SV) (s76 : Int) (μ : AMem) : overdublaw09_BlockAll_L2_B [.s s7, .s s9, .s s10, .s s11, .s (.int .i64 s75)] [.s s13, .s (.int .i64 s76)] μ =
 bif decide (s76 < s75) then
 (indS 1 (.s s10) s76 fun p124 =>
 loadAt μ p124 fun v125 =>
 asS v125 fun x126 =>
 (block_Coder_Open [.s s9, .s x126] μ).bind fun r127 =>
 extrK 0 r127.1 fun t128 =>
 asS t128 fun x129 =>
 extrK 1 r127.1 fun t130 =>
 asI .i64 t130 fun n131 =>
 seqJ
 (bif !(n131 != 0) then
 ((lenS (.s x129)).bind fun l132 =>
 indS 1 (.s s11) s76 fun p133 =>
 loadAt r127.2 p133 fun v134 =>
 asI .i64 v134 fun n135 =>
 bif !(((l132 : Nat) : Int) != n135) then
 (indS 1 (.s s11) s76 fun p136 =>
 loadAt r127.2 p136 fun v137 =>
 asI .i64 v137 fun n138 =>
 bif !(decide (n138 > 64)) then
 ((lenS (.s s10)).bind fun l139 =>
 bif decide ((IntKind.wrap .i64 (s76 + 1)) < ((l139 : Nat) : Int)) then
 (indS 1 (.s s11) s76 fun p140 =>
 loadAt r127.2 p140 fun v141 =>
 asI .i64 v141 fun n142 =>
 some (.normal, [.s (.bool (decide (n142 < 40)))], r127.2))
 else
 (some (.normal, [.s (.bool false)], r127.2)))
 else
 (some (.normal, [.s (.bool true)], r127.2)))
 else
 (some (.normal, [.s (.bool true)], r127.2)))
 else
 (some (.normal, [.s (.bool true)], r127.2)))
 (fun vs143 m144 =>
 headK vs143 fun a145 r146 =>
 asB a145 fun b147 =>
 bif b147 then
 (some (.ret, [.s (.bool false)], m144))
 else
 (appendA 3 1 8 (m144.next + 2) (m144.bump 4) (.s s13) (.s x129) fun x148 m149 =>
 asS x148 fun x150 =>
 some (.normal, [.s x150, .s (.int .i64 (IntKind.wrap .i64 (s76 + 1)))], m149)))
 (fun vs151 m152 =>
 headK vs151 fun a156 r157 =>
 asB a156 fun b158 =>
 some (.ret, [.s (.bool b158)], m152))
 (fun d155 vs153 m154 =>
 none))
 else
 (some (.exit 2, [.s s7, .s s9, .s s10, .s s13], μ)) := by rw [← G4_14]; kernel_rfl
theorem overdublaw09_BlockAll_L2_eq (os vs : List AV) (μ : AMem) : overdublaw09_BlockAll_L2 os vs μ = (overdublaw09_BlockAll_L2_B os vs μ).bind fun r => match r.1 with | .normal => overdublaw09_BlockAll_L2 os r.2.1 r.2.2 | _ => some r := loopA_eq _ _ _
theorem overdublaw09_BlockAll_L1_B_eq (s0 : SV) (s1 : Int) (s2 : Int) (s7 : SV) (s8 : Int) (μ : AMem) : overdublaw09_BlockAll_L1_B [.s s0, .s (.int .i64 s1), .s (.int .i64 s2)] [.s s7, .s (.int .i64 s8)] μ =
 seqJ
 ((lenS (.s s0)).bind fun l81 =>
 bif decide (s8 < ((l81 : Nat) : Int)) then
 (some (.normal, [.s (.bool (decide (s8 < 3)))], μ))
 else
 (some (.normal, [.s (.bool false)], μ)))
 (fun vs82 m83 =>
 headK vs82 fun a84 r85 =>
 asB a84 fun b86 =>
 bif b86 then
 (seqJ
 (bif ((Int.tmod s8 2) == 0) then
 (indS 1 (.s s0) s8 fun p87 =>
 loadAt (m83.bump 13) p87 fun v88 =>
 asS v88 fun x89 =>
 (overdublaw08_Tone [.s x89, .s (.int .i64 s1), .s (.int .i64 (IntKind.wrap .i64 (s8 + s1))), .s (.int .i64 s2)] (m83.bump 13)).bind fun r90 =>
 asS r90.1 fun x91 =>
 appendA 3 1 8 (m83.next + 11) r90.2 (.s s7) (.s x91) fun x92 m93 =>
 asS x92 fun x94 =>
 some (.normal, [.s x94], m93))
 else
 (indS 1 (.s s0) s8 fun p95 =>
 loadAt (m83.bump 8) p95 fun v96 =>
 asS v96 fun x97 =>
 (overdubkeep_Samples [.s x97, .s (.int .i64 60), .s (.bool false)] (m83.bump 8)).bind fun r98 =>
 asS r98.1 fun x99 =>
 appendA 3 1 8 (m83.next + 6) r98.2 (.s s7) (.s x99) fun x100 m101 =>
 asS x100 fun x102 =>
 some (.normal, [.s x102], m101)))
 (fun vs103 m104 =>
 headK vs103 fun a105 r106 =>
 asS a105 fun x107 =>
 some (.normal, [.s x107, .s (.int .i64 (IntKind.wrap .i64 (s8 + 1)))], m104))
 (fun vs108 m109 =>
 headK vs108 fun a113 r114 =>
 asB a113 fun b115 =>
 some (.ret, [.s (.bool b115)], m109))
 (fun d112 vs110 m111 =>
 none))
 else
 (some (.exit 0, [.s s7], m83)))
 (fun vs116 m117 =>
 headK vs116 fun a121 r122 =>
 asB a121 fun b123 =>
 some (.ret, [.s (.bool b123)], m117))
 (fun d120 vs118 m119 =>
 none) := by rw [← G4_6, ← G4_7]; kernel_rfl
theorem overdublaw09_BlockAll_L1_eq (os vs : List AV) (μ : AMem) : overdublaw09_BlockAll_L1 os vs μ = (overdublaw09_BlockAll_L1_B os vs μ).bind fun r => match r.1 with | .normal => overdublaw09_BlockAll_L1 os r.2.1 r.2.2 | _ => some r := loopA_eq _ _ _
theorem overdublaw09_BlockAll_eq (p0 : SV) (p1 : Int) (p2 : Int) (μ : AMem) : overdublaw09_BlockAll [.s p0, .s (.int .i64 p1), .s (.int .i64 p2)] μ =
 seqJ (overdublaw09_BlockAll_L1 [.s p0, .s (.int .i64 p1), .s (.int .i64 p2)] [.s .nilSlice, .s (.int .i64 0)] μ)
 (fun _ _ => none)
 (fun vs1 m2 =>
 headK vs1 fun a6 r7 =>
 asB a6 fun b8 =>
 some (.s (.bool b8), m2))
 (fun d5 vs3 m4 =>
 bif Nat.beq 0 d5 then (headK vs3 fun a9 r10 =>
 asS a9 fun x11 =>
 (block_New [] m4).bind fun r12 =>
 asS r12.1 fun x13 =>
 (isNil (.s x13)).bind fun b14 =>
 bif b14 then
 (some (.s (.bool false), r12.2))
 else
 ((block_Coder_All [.s x13, .s x11] r12.2).bind fun r15 =>
 extrK 0 r15.1 fun t16 =>
 asS t16 fun x17 =>
 extrK 1 r15.1 fun t18 =>
 asS t18 fun x19 =>
 extrK 2 r15.1 fun t20 =>
 asI .i64 t20 fun n21 =>
 seqJ
 (bif !(n21 != 0) then
 ((lenS (.s x17)).bind fun l22 =>
 (lenS (.s x19)).bind fun l23 =>
 some (.normal, [.s (.bool (((l22 : Nat) : Int) != ((l23 : Nat) : Int)))], r15.2))
 else
 (some (.normal, [.s (.bool true)], r15.2)))
 (fun vs24 m25 =>
 headK vs24 fun a26 r27 =>
 asB a26 fun b28 =>
 bif b28 then
 (some (.s (.bool false), m25))
 else
 ((lenS (.s x17)).bind fun l29 =>
 seqJ (overdublaw09_BlockAll_L2 [.s x11, .s x13, .s x17, .s x19, .s (.int .i64 ((l29 : Nat) : Int))] [.s .nilSlice, .s (.int .i64 0)] m25)
 (fun _ _ => none)
 (fun vs30 m31 =>
 headK vs30 fun a35 r36 =>
 asB a35 fun b37 =>
 some (.s (.bool b37), m31))
 (fun d34 vs32 m33 =>
 bif Nat.beq 2 d34 then (headK vs32 fun a38 r39 =>
 asS a38 fun x40 =>
 headK r39 fun a41 r42 =>
 asS a41 fun x43 =>
 headK r42 fun a44 r45 =>
 asS a44 fun x46 =>
 headK r45 fun a47 r48 =>
 asS a47 fun x49 =>
 (block_Coder_Counts [.s x43] m33).bind fun r50 =>
 extrK 0 r50.1 fun t51 =>
 asI .i64 t51 fun n52 =>
 extrK 1 r50.1 fun t53 =>
 asI .i64 t53 fun n54 =>
 (overdubkeep_Copy_int [.s x40] (r50.2.bump 5)).bind fun r55 =>
 asS r55.1 fun x56 =>
 appendA 3 1 8 (r50.2.next + 3) (r55.2.set (r50.2.next + 2) (rowObj [.int .i64 8388608] 1 3 (some 1))) (.s x56) (.s (.slice (r50.2.next + 2) 0 0 1)) fun x57 m58 =>
 asS x57 fun x59 =>
 (block_Coder_All [.s x43, .s x59] m58).bind fun r60 =>
 extrK 0 r60.1 fun t61 =>
 asS t61 fun x62 =>
 extrK 1 r60.1 fun t63 =>
 asS t63 fun x64 =>
 extrK 2 r60.1 fun t65 =>
 asI .i64 t65 fun n66 =>
 (overdubkeep_Same_int [.s x40, .s x49] r60.2).bind fun r67 =>
 asB r67.1 fun b68 =>
 bif b68 then
 ((lenS (.s x46)).bind fun l69 =>
 bif (n52 == ((l69 : Nat) : Int)) then
 ((lenS (.s x46)).bind fun l70 =>
 bif (n54 == ((l70 : Nat) : Int)) then
 (bif (n66 == 8) then
 ((overdublaw09_wakes [] r67.2).bind fun r71 =>
 asB r71.1 fun b72 =>
 some (.s (.bool b72), r71.2))
 else
 (some (.s (.bool false), r67.2)))
 else
 (some (.s (.bool false), r67.2)))
 else
 (some (.s (.bool false), r67.2)))
 else
 (some (.s (.bool false), r67.2))) else (none))))
 (fun vs73 m74 =>
 headK vs73 fun a78 r79 =>
 asB a78 fun b80 =>
 some (.s (.bool b80), m74))
 (fun d77 vs75 m76 =>
 none))) else (none)) := by rw [← G4_8, ← G4_13, ← G4_15, ← G4_16, ← G4_17, ← G4_12]; kernel_rfl

noncomputable def G18 : FuncId → FunA := fun _ _ _ => none
def A18 : Ann := .two (.leaf) (.two (.leaf) (.leaf))
def R18 : Slots := [(4, .s)]
noncomputable def overdubkeep_Cut_byte : FunA := denF Tryz.prog G18 Tryz.f18 A18 R18
theorem overdubkeep_Cut_byte_eq (p0 : SV) (p1 : Int) (μ : AMem) : overdubkeep_Cut_byte [.s p0, .s (.int .i64 p1)] μ =
 (lenS (.s p0)).bind fun l1 =>
 cutS 1 (.s p0) 0 (if p1 < ((l1 : Nat) : Int) then p1 else ((l1 : Nat) : Int)) fun x2 =>
 some (x2, μ) := by kernel_rfl

noncomputable def G21 : FuncId → FunA := fun g => bif Nat.beq g 29 then block_Coder_unseal else bif Nat.beq g 31 then atomic_Int64_Add else fun _ _ => none
theorem G21_29 : G21 29 = block_Coder_unseal := by kernel_rfl
theorem G21_31 : G21 31 = atomic_Int64_Add := by kernel_rfl
def A21 : Ann := .two (.leaf) (.two (.leaf) (.join [] [6, 7] [] (.two (.leaf) (.two (.leaf) (.leaf))) (.two (.leaf) (.leaf))))
def R21 : Slots := [(4, .s), (5, .i .i64)]
noncomputable def block_Coder_Unseal : FunA := denF Tryz.prog G21 Tryz.f21 A21 R21
theorem block_Coder_Unseal_eq (p0 q0 o0 : Nat) (p1 : SV) (μ : AMem) : block_Coder_Unseal [.s (.ptr p0 q0 o0), .s p1] μ =
 (block_Coder_unseal [.s (.ptr p0 q0 o0), .s p1] μ).bind fun r1 =>
 extrK 0 r1.1 fun t2 =>
 asS t2 fun x3 =>
 extrK 1 r1.1 fun t4 =>
 asI .i64 t4 fun n5 =>
 seqJ
 (bif (n5 == 0) then
 ((atomic_Int64_Add [.s (.ptr p0 q0 (o0 + 2)), .s (.int .i64 1)] r1.2).bind fun r6 =>
 asI .i64 r6.1 fun n7 =>
 some (.normal, [], r6.2))
 else
 (some (.normal, [], r1.2)))
 (fun vs8 m9 =>
 some (.tuple [.s x3, .s (.int .i64 n5)], m9))
 (fun vs10 m11 =>
 headK vs10 fun a15 r16 =>
 asS a15 fun x17 =>
 headK r16 fun a18 r19 =>
 asI .i64 a18 fun n20 =>
 some (.tuple [.s x17, .s (.int .i64 n20)], m11))
 (fun d14 vs12 m13 =>
 none) := by rw [← G21_29, ← G21_31]; kernel_rfl

noncomputable def G23 : FuncId → FunA := fun g => bif Nat.beq g 34 then overdubref01_Summed else fun _ _ => none
theorem G23_34 : G23 34 = overdubref01_Summed := by kernel_rfl
def A23 : Ann := .two (.leaf) (.two (.ord [0, 1, 2, 3, 4, 5, 8, 9, 6, 7, 10, 11, 12]) (.leaf))
def R23 : Slots := [(2, .b)]
noncomputable def overdubref01_Whole : FunA := denF Tryz.prog G23 Tryz.f23 A23 R23
theorem overdubref01_Whole_eq (p0 : SV) (μ : AMem) : overdubref01_Whole [.s p0] μ =
 (lenS (.s p0)).bind fun l1 =>
 bif (((l1 : Nat) : Int) == 128) then
 (cutS 1 (.s p0) 0 124 fun x2 =>
 strA μ (.s p0) fun x3 =>
 asS x3 fun x4 =>
 (overdubref01_Summed [x2, .s (.int .i64 0)] μ).bind fun r5 =>
 asS r5.1 fun x6 =>
 checkA ((strA r5.2 (.s p0) some) = some (.s x4))
 (strA r5.2 (.s x6) fun x7 =>
 asS x7 fun x8 =>
 asT (.s x8) fun t9 =>
 asT (.s x4) fun t10 =>
 some (.s (.bool (t9 == t10)), r5.2)))
 else
 (some (.s (.bool false), μ)) := by rw [← G23_34]; kernel_rfl

noncomputable def G53 : FuncId → FunA := fun _ _ _ => none
def A53 : Ann := .two (.leaf) (.two (.leaf) (.two (.two (.leaf) (.join [(3, .s)] [] [] (.loop [(3, .s), (8, .i .i64)] [0, 7] [0] (.two (.leaf) (.two (.two (.leaf) (.leaf)) (.two (.join [(0, .s), (3, .s), (7, .i .i64), (8, .i .i64)] [] [] (.two (.leaf) (.two (.leaf) (.join [(0, .s), (3, .s), (7, .i .i64), (8, .i .i64)] [] [] (.loop [(3, .s), (5, .i .i64)] [0, 4, 7, 8] [2] (.two (.two (.leaf) (.two (.leaf) (.leaf))) (.two (.join [(0, .s), (3, .s), (4, .i .i64), (5, .i .i64), (7, .i .i64), (8, .i .i64)] [] [] (.leaf) .leaf) (.leaf)))) .leaf))) .leaf) (.leaf))))) .leaf)) (.two (.leaf) (.leaf))))
def R53 : Slots := [(2, .s)]
noncomputable def overdubref01_Of : FunA := denF Tryz.prog G53 Tryz.f53 A53 R53
noncomputable def overdubref01_Of_L2_B (os vs : List AV) (μ : AMem) : Option Res := joinK [(3, .s), (5, .i .i64)] vs (envO [0, 4, 7, 8] os) fun e => den Tryz.prog G53 Tryz.f53.ntmps (cL (cL (cR (cR (cL (cL (cR (cR (cL (cL (cR (cL (cR (cR (bodyOf Tryz.f53))))))))))))))) (aL (aL (aR (aR (aL (aL (aR (aR (aL (aL (aR (aL (aR (aR A53)))))))))))))) { ret := R53, exits := [(2, [(0, .s), (3, .s), (7, .i .i64), (8, .i .i64)]), (1, [(0, .s), (3, .s), (7, .i .i64), (8, .i .i64)]), (0, [(3, .s)])] } Res e μ fun ex e μ => some (ex, valsOf (Lv.at { ret := R53, exits := [(2, [(0, .s), (3, .s), (7, .i .i64), (8, .i .i64)]), (1, [(0, .s), (3, .s), (7, .i .i64), (8, .i .i64)]), (0, [(3, .s)])] } [(3, .s), (5, .i .i64)] ex) e, μ)
noncomputable def overdubref01_Of_L2 (os vs : List AV) (μ : AMem) : Option Res := loopA (overdubref01_Of_L2_B os) vs μ
noncomputable def overdubref01_Of_L1_B (os vs : List AV) (μ : AMem) : Option Res := joinK [(3, .s), (8, .i .i64)] vs (envO [0, 7] os) fun e => den Tryz.prog G53 Tryz.f53.ntmps (cL (cL (cR (cL (cR (cR (bodyOf Tryz.f53))))))) (aL (aL (aR (aL (aR (aR A53)))))) { ret := R53, exits := [(0, [(3, .s)])] } Res e μ fun ex e μ => some (ex, valsOf (Lv.at { ret := R53, exits := [(0, [(3, .s)])] } [(3, .s), (8, .i .i64)] ex) e, μ)
noncomputable def overdubref01_Of_L1 (os vs : List AV) (μ : AMem) : Option Res := loopA (overdubref01_Of_L1_B os) vs μ
theorem overdubref01_Of_L2_B_eq (s0 : SV) (s4 : Int) (s7 : Int) (s8 : Int) (s3 : SV) (s5 : Int) (μ : AMem) : overdubref01_Of_L2_B [.s s0, .s (.int .i64 s4), .s (.int .i64 s7), .s (.int .i64 s8)] [.s s3, .s (.int .i64 s5)] μ =
 bif decide (s5 ≥ 0) then
 (indS 1 (.s s0) s4 fun p33 =>
 loadAt (μ.bump 12) p33 fun v34 =>
 asI .u8 v34 fun n35 =>
 if (IntKind.wrap .u64 s5) < 0 then none else
 (appendA 5 1 1 (μ.next + 10) ((μ.bump 12).set (μ.next + 9) (rowObj [.int .u8 (IntKind.wrap .u8 (BitVec.toNat ((BitVec.ofInt (IntKind.bits .u8) (Int.fdiv n35 (2 ^ (min (Int.toNat (IntKind.wrap .u64 s5)) (IntKind.bits .u8))))) &&& (BitVec.ofInt (IntKind.bits .u8) 1))))] 1 5 (some 1))) (.s s3) (.s (.slice (μ.next + 9) 0 0 1)) fun x36 m37 =>
 asS x36 fun x38 =>
 some (.normal, [.s x38, .s (.int .i64 (IntKind.wrap .i64 (s5 - 1)))], m37)))
 else
 (some (.exit 2, [.s s0, .s s3, .s (.int .i64 s7), .s (.int .i64 s8)], μ)) := by kernel_rfl
theorem overdubref01_Of_L2_eq (os vs : List AV) (μ : AMem) : overdubref01_Of_L2 os vs μ = (overdubref01_Of_L2_B os vs μ).bind fun r => match r.1 with | .normal => overdubref01_Of_L2 os r.2.1 r.2.2 | _ => some r := loopA_eq _ _ _
theorem overdubref01_Of_L1_B_eq (s0 : SV) (s7 : Int) (s3 : SV) (s8 : Int) (μ : AMem) : overdubref01_Of_L1_B [.s s0, .s (.int .i64 s7)] [.s s3, .s (.int .i64 s8)] μ =
 bif decide (s8 < s7) then
 (seqJ (overdubref01_Of_L2 [.s s0, .s (.int .i64 s8), .s (.int .i64 s7), .s (.int .i64 s8)] [.s s3, .s (.int .i64 7)] μ)
 (fun _ _ => none)
 (fun vs13 m14 =>
 headK vs13 fun a18 r19 =>
 asS a18 fun x20 =>
 some (.ret, [.s x20], m14))
 (fun d17 vs15 m16 =>
 bif Nat.beq 2 d17 then (headK vs15 fun a21 r22 =>
 asS a21 fun x23 =>
 headK r22 fun a24 r25 =>
 asS a24 fun x26 =>
 headK r25 fun a27 r28 =>
 asI .i64 a27 fun n29 =>
 headK r28 fun a30 r31 =>
 asI .i64 a30 fun n32 =>
 some (.normal, [.s x26, .s (.int .i64 (IntKind.wrap .i64 (n32 + 1)))], m16)) else (none)))
 else
 (some (.exit 0, [.s s3], μ)) := by kernel_rfl
theorem overdubref01_Of_L1_eq (os vs : List AV) (μ : AMem) : overdubref01_Of_L1 os vs μ = (overdubref01_Of_L1_B os vs μ).bind fun r => match r.1 with | .normal => overdubref01_Of_L1 os r.2.1 r.2.2 | _ => some r := loopA_eq _ _ _
theorem overdubref01_Of_eq (p0 : SV) (μ : AMem) : overdubref01_Of [.s p0] μ =
 (lenS (.s p0)).bind fun l1 =>
 seqJ (overdubref01_Of_L1 [.s p0, .s (.int .i64 ((l1 : Nat) : Int))] [.s .nilSlice, .s (.int .i64 0)] μ)
 (fun _ _ => none)
 (fun vs2 m3 =>
 headK vs2 fun a7 r8 =>
 asS a7 fun x9 =>
 some (.s x9, m3))
 (fun d6 vs4 m5 =>
 bif Nat.beq 0 d6 then (headK vs4 fun a10 r11 =>
 asS a10 fun x12 =>
 some (.s x12, m5)) else (none)) := by kernel_rfl

noncomputable def G54 : FuncId → FunA := fun _ _ _ => none
def A54 : Ann := .two (.leaf) (.two (.join [(20, .b)] [0, 1] [] (.leaf) (.two (.two (.leaf) (.leaf)) (.leaf))) (.two (.leaf) (.two (.two (.leaf) (.join [(0, .s), (1, .i .i64), (7, .i .i64)] [] [] (.loop [(7, .i .i64), (8, .i .i64)] [0, 1] [0] (.two (.two (.leaf) (.two (.leaf) (.leaf))) (.two (.join [(0, .s), (1, .i .i64), (7, .i .i64), (8, .i .i64)] [] [] (.leaf) .leaf) (.leaf)))) .leaf)) (.two (.ord [0, 1, 2, 3, 4, 5, 6]) (.leaf)))))
def R54 : Slots := [(4, .i .i64), (5, .s), (6, .b)]
noncomputable def overdubref01_Bits_Get : FunA := denF Tryz.prog G54 Tryz.f54 A54 R54
noncomputable def overdubref01_Bits_Get_L1_B (os vs : List AV) (μ : AMem) : Option Res := joinK [(7, .i .i64), (8, .i .i64)] vs (envO [0, 1] os) fun e => den Tryz.prog G54 Tryz.f54.ntmps (cL (cL (cR (cL (cR (cR (cR (bodyOf Tryz.f54)))))))) (aL (aL (aR (aL (aR (aR (aR A54))))))) { ret := R54, exits := [(0, [(0, .s), (1, .i .i64), (7, .i .i64)])] } Res e μ fun ex e μ => some (ex, valsOf (Lv.at { ret := R54, exits := [(0, [(0, .s), (1, .i .i64), (7, .i .i64)])] } [(7, .i .i64), (8, .i .i64)] ex) e, μ)
noncomputable def overdubref01_Bits_Get_L1 (os vs : List AV) (μ : AMem) : Option Res := loopA (overdubref01_Bits_Get_L1_B os) vs μ
theorem overdubref01_Bits_Get_L1_B_eq (s0 : SV) (s1 : Int) (s7 : Int) (s8 : Int) (μ : AMem) : overdubref01_Bits_Get_L1_B [.s s0, .s (.int .i64 s1)] [.s (.int .i64 s7), .s (.int .i64 s8)] μ =
 bif decide (s8 < s1) then
 (indS 1 (.s s0) s8 fun p46 =>
 loadAt μ p46 fun v47 =>
 asI .u8 v47 fun n48 =>
 some (.normal, [.s (.int .i64 (IntKind.wrap .i64 ((IntKind.wrap .i64 (2 * s7)) + (IntKind.wrap .i64 n48)))), .s (.int .i64 (IntKind.wrap .i64 (s8 + 1)))], μ))
 else
 (some (.exit 0, [.s s0, .s (.int .i64 s1), .s (.int .i64 s7)], μ)) := by kernel_rfl
theorem overdubref01_Bits_Get_L1_eq (os vs : List AV) (μ : AMem) : overdubref01_Bits_Get_L1 os vs μ = (overdubref01_Bits_Get_L1_B os vs μ).bind fun r => match r.1 with | .normal => overdubref01_Bits_Get_L1 os r.2.1 r.2.2 | _ => some r := loopA_eq _ _ _
theorem overdubref01_Bits_Get_eq (p0 : SV) (p1 : Int) (μ : AMem) : overdubref01_Bits_Get [.s p0, .s (.int .i64 p1)] μ =
 seqJ
 (bif !(decide (p1 < 0)) then
 (bif !(decide (p1 > 62)) then
 ((lenS (.s p0)).bind fun l1 =>
 some (.normal, [.s (.bool (decide (p1 > ((l1 : Nat) : Int))))], μ))
 else
 (some (.normal, [.s (.bool true)], μ)))
 else
 (some (.normal, [.s (.bool true)], μ)))
 (fun vs2 m3 =>
 headK vs2 fun a4 r5 =>
 asB a4 fun b6 =>
 bif b6 then
 (some (.tuple [.s (.int .i64 0), .s p0, .s (.bool false)], m3))
 else
 (seqJ (overdubref01_Bits_Get_L1 [.s p0, .s (.int .i64 p1)] [.s (.int .i64 0), .s (.int .i64 0)] m3)
 (fun _ _ => none)
 (fun vs7 m8 =>
 headK vs7 fun a12 r13 =>
 asI .i64 a12 fun n14 =>
 headK r13 fun a15 r16 =>
 asS a15 fun x17 =>
 headK r16 fun a18 r19 =>
 asB a18 fun b20 =>
 some (.tuple [.s (.int .i64 n14), .s x17, .s (.bool b20)], m8))
 (fun d11 vs9 m10 =>
 bif Nat.beq 0 d11 then (headK vs9 fun a21 r22 =>
 asS a21 fun x23 =>
 headK r22 fun a24 r25 =>
 asI .i64 a24 fun n26 =>
 headK r25 fun a27 r28 =>
 asI .i64 a27 fun n29 =>
 (lenS (.s x23)).bind fun l30 =>
 cutS 1 (.s x23) n26 ((l30 : Nat) : Int) fun x31 =>
 some (.tuple [.s (.int .i64 n29), x31, .s (.bool true)], m10)) else (none))))
 (fun vs32 m33 =>
 headK vs32 fun a37 r38 =>
 asI .i64 a37 fun n39 =>
 headK r38 fun a40 r41 =>
 asS a40 fun x42 =>
 headK r41 fun a43 r44 =>
 asB a43 fun b45 =>
 some (.tuple [.s (.int .i64 n39), .s x42, .s (.bool b45)], m33))
 (fun d36 vs34 m35 =>
 none) := by kernel_rfl

noncomputable def G55 : FuncId → FunA := fun g => bif Nat.beq g 54 then overdubref01_Bits_Get else fun _ _ => none
theorem G55_54 : G55 54 = overdubref01_Bits_Get := by kernel_rfl
def A55 : Ann := .two (.leaf) (.two (.leaf) (.two (.two (.leaf) (.join [(0, .s), (7, .s)] [] [] (.loop [(0, .s), (7, .s), (8, .i .i64)] [1] [0] (.two (.two (.leaf) (.two (.leaf) (.leaf))) (.two (.join [(0, .s), (1, .i .i64), (7, .s), (8, .i .i64)] [] [] (.two (.leaf) (.two (.two (.leaf) (.two (.two (.leaf) (.leaf)) (.leaf))) (.two (.leaf) (.leaf)))) .leaf) (.leaf)))) .leaf)) (.two (.leaf) (.leaf))))
def R55 : Slots := [(4, .s), (5, .s), (6, .b)]
noncomputable def overdubref05_samples : FunA := denF Tryz.prog G55 Tryz.f55 A55 R55
noncomputable def overdubref05_samples_L1_B (os vs : List AV) (μ : AMem) : Option Res := joinK [(0, .s), (7, .s), (8, .i .i64)] vs (envO [1] os) fun e => den Tryz.prog G55 Tryz.f55.ntmps (cL (cL (cR (cL (cR (cR (bodyOf Tryz.f55))))))) (aL (aL (aR (aL (aR (aR A55)))))) { ret := R55, exits := [(0, [(0, .s), (7, .s)])] } Res e μ fun ex e μ => some (ex, valsOf (Lv.at { ret := R55, exits := [(0, [(0, .s), (7, .s)])] } [(0, .s), (7, .s), (8, .i .i64)] ex) e, μ)
noncomputable def overdubref05_samples_L1 (os vs : List AV) (μ : AMem) : Option Res := loopA (overdubref05_samples_L1_B os) vs μ
theorem overdubref05_samples_L1_B_eq (s1 : Int) (s0 : SV) (s7 : SV) (s8 : Int) (μ : AMem) : overdubref05_samples_L1_B [.s (.int .i64 s1)] [.s s0, .s s7, .s (.int .i64 s8)] μ =
 bif decide (s8 < s1) then
 ((overdubref01_Bits_Get [.s s0, .s (.int .i64 24)] μ).bind fun r21 =>
 extrK 0 r21.1 fun t22 =>
 asI .i64 t22 fun n23 =>
 extrK 1 r21.1 fun t24 =>
 asS t24 fun x25 =>
 extrK 2 r21.1 fun t26 =>
 asB t26 fun b27 =>
 bif (!b27) then
 (some (.ret, [.s .nilSlice, .s s0, .s (.bool false)], r21.2))
 else
 (appendA 3 1 8 (r21.2.next + 4) ((r21.2.bump 6).set (r21.2.next + 3) (rowObj [.int .i64 (IntKind.wrap .i64 (n23 + (-8388608)))] 1 3 (some 1))) (.s s7) (.s (.slice (r21.2.next + 3) 0 0 1)) fun x28 m29 =>
 asS x28 fun x30 =>
 some (.normal, [.s x25, .s x30, .s (.int .i64 (IntKind.wrap .i64 (s8 + 1)))], m29)))
 else
 (some (.exit 0, [.s s0, .s s7], μ)) := by rw [← G55_54]; kernel_rfl
theorem overdubref05_samples_L1_eq (os vs : List AV) (μ : AMem) : overdubref05_samples_L1 os vs μ = (overdubref05_samples_L1_B os vs μ).bind fun r => match r.1 with | .normal => overdubref05_samples_L1 os r.2.1 r.2.2 | _ => some r := loopA_eq _ _ _
theorem overdubref05_samples_eq (p0 : SV) (p1 : Int) (μ : AMem) : overdubref05_samples [.s p0, .s (.int .i64 p1)] μ =
 seqJ (overdubref05_samples_L1 [.s (.int .i64 p1)] [.s p0, .s .nilSlice, .s (.int .i64 0)] μ)
 (fun _ _ => none)
 (fun vs1 m2 =>
 headK vs1 fun a6 r7 =>
 asS a6 fun x8 =>
 headK r7 fun a9 r10 =>
 asS a9 fun x11 =>
 headK r10 fun a12 r13 =>
 asB a12 fun b14 =>
 some (.tuple [.s x8, .s x11, .s (.bool b14)], m2))
 (fun d5 vs3 m4 =>
 bif Nat.beq 0 d5 then (headK vs3 fun a15 r16 =>
 asS a15 fun x17 =>
 headK r16 fun a18 r19 =>
 asS a18 fun x20 =>
 some (.tuple [.s x20, .s x17, .s (.bool true)], m4)) else (none)) := by kernel_rfl

noncomputable def G110 : FuncId → FunA := fun _ _ _ => none
def A110 : Ann := .two (.leaf) (.two (.join [(13, .b)] [0, 1] [] (.leaf) (.two (.two (.leaf) (.leaf)) (.leaf))) (.two (.leaf) (.two (.join [(0, .s), (1, .i .i64), (7, .i .i64)] [] [] (.loop [(7, .i .i64)] [0, 1] [0] (.two (.join [(30, .b)] [0, 1, 7] [] (.leaf) (.two (.leaf) (.leaf))) (.join [(0, .s), (1, .i .i64), (7, .i .i64)] [] [] (.leaf) .leaf))) .leaf) (.two (.two (.leaf) (.two (.two (.ord [0, 1, 2, 3, 4, 5, 6]) (.leaf)) (.leaf))) (.two (.two (.leaf) (.two (.two (.leaf) (.leaf)) (.leaf))) (.two (.ord [0, 1, 2, 3, 4, 5, 6, 7]) (.leaf)))))))
def R110 : Slots := [(4, .i .i64), (5, .s), (6, .b)]
noncomputable def overdubref01_Bits_TakeOnes : FunA := denF Tryz.prog G110 Tryz.f110 A110 R110
noncomputable def overdubref01_Bits_TakeOnes_L1_B (os vs : List AV) (μ : AMem) : Option Res := joinK [(7, .i .i64)] vs (envO [0, 1] os) fun e => den Tryz.prog G110 Tryz.f110.ntmps (cL (cL (cL (cR (cR (cR (bodyOf Tryz.f110))))))) (aL (aL (aL (aR (aR (aR A110)))))) { ret := R110, exits := [(0, [(0, .s), (1, .i .i64), (7, .i .i64)])] } Res e μ fun ex e μ => some (ex, valsOf (Lv.at { ret := R110, exits := [(0, [(0, .s), (1, .i .i64), (7, .i .i64)])] } [(7, .i .i64)] ex) e, μ)
noncomputable def overdubref01_Bits_TakeOnes_L1 (os vs : List AV) (μ : AMem) : Option Res := loopA (overdubref01_Bits_TakeOnes_L1_B os) vs μ
theorem overdubref01_Bits_TakeOnes_L1_B_eq (s0 : SV) (s1 : Int) (s7 : Int) (μ : AMem) : overdubref01_Bits_TakeOnes_L1_B [.s s0, .s (.int .i64 s1)] [.s (.int .i64 s7)] μ =
 seqJ
 (bif decide (s7 < s1) then
 ((lenS (.s s0)).bind fun l48 =>
 bif decide (s7 < ((l48 : Nat) : Int)) then
 (indS 1 (.s s0) s7 fun p49 =>
 loadAt μ p49 fun v50 =>
 asI .u8 v50 fun n51 =>
 some (.normal, [.s (.bool (n51 == 1))], μ))
 else
 (some (.normal, [.s (.bool false)], μ)))
 else
 (some (.normal, [.s (.bool false)], μ)))
 (fun vs52 m53 =>
 headK vs52 fun a54 r55 =>
 asB a54 fun b56 =>
 bif b56 then
 (some (.normal, [.s (.int .i64 (IntKind.wrap .i64 (s7 + 1)))], m53))
 else
 (some (.exit 0, [.s s0, .s (.int .i64 s1), .s (.int .i64 s7)], m53)))
 (fun vs57 m58 =>
 headK vs57 fun a62 r63 =>
 asI .i64 a62 fun n64 =>
 headK r63 fun a65 r66 =>
 asS a65 fun x67 =>
 headK r66 fun a68 r69 =>
 asB a68 fun b70 =>
 some (.ret, [.s (.int .i64 n64), .s x67, .s (.bool b70)], m58))
 (fun d61 vs59 m60 =>
 none) := by kernel_rfl
theorem overdubref01_Bits_TakeOnes_L1_eq (os vs : List AV) (μ : AMem) : overdubref01_Bits_TakeOnes_L1 os vs μ = (overdubref01_Bits_TakeOnes_L1_B os vs μ).bind fun r => match r.1 with | .normal => overdubref01_Bits_TakeOnes_L1 os r.2.1 r.2.2 | _ => some r := loopA_eq _ _ _
theorem overdubref01_Bits_TakeOnes_eq (p0 : SV) (p1 : Int) (μ : AMem) : overdubref01_Bits_TakeOnes [.s p0, .s (.int .i64 p1)] μ =
 seqJ
 (bif !(decide (p1 < 0)) then
 (some (.normal, [.s (.bool (decide (p1 > 1024)))], μ))
 else
 (some (.normal, [.s (.bool true)], μ)))
 (fun vs1 m2 =>
 headK vs1 fun a3 r4 =>
 asB a3 fun b5 =>
 bif b5 then
 (some (.tuple [.s (.int .i64 0), .s p0, .s (.bool false)], m2))
 else
 (seqJ (overdubref01_Bits_TakeOnes_L1 [.s p0, .s (.int .i64 p1)] [.s (.int .i64 0)] m2)
 (fun _ _ => none)
 (fun vs6 m7 =>
 headK vs6 fun a11 r12 =>
 asI .i64 a11 fun n13 =>
 headK r12 fun a14 r15 =>
 asS a14 fun x16 =>
 headK r15 fun a17 r18 =>
 asB a17 fun b19 =>
 some (.tuple [.s (.int .i64 n13), .s x16, .s (.bool b19)], m7))
 (fun d10 vs8 m9 =>
 bif Nat.beq 0 d10 then (headK vs8 fun a20 r21 =>
 asS a20 fun x22 =>
 headK r21 fun a23 r24 =>
 asI .i64 a23 fun n25 =>
 headK r24 fun a26 r27 =>
 asI .i64 a26 fun n28 =>
 bif (n28 == n25) then
 ((lenS (.s x22)).bind fun l29 =>
 cutS 1 (.s x22) n28 ((l29 : Nat) : Int) fun x30 =>
 some (.tuple [.s (.int .i64 n28), x30, .s (.bool true)], m9))
 else
 ((lenS (.s x22)).bind fun l31 =>
 bif (n28 == ((l31 : Nat) : Int)) then
 (some (.tuple [.s (.int .i64 0), .s x22, .s (.bool false)], m9))
 else
 ((lenS (.s x22)).bind fun l32 =>
 cutS 1 (.s x22) (IntKind.wrap .i64 (n28 + 1)) ((l32 : Nat) : Int) fun x33 =>
 some (.tuple [.s (.int .i64 n28), x33, .s (.bool true)], m9)))) else (none))))
 (fun vs34 m35 =>
 headK vs34 fun a39 r40 =>
 asI .i64 a39 fun n41 =>
 headK r40 fun a42 r43 =>
 asS a42 fun x44 =>
 headK r43 fun a45 r46 =>
 asB a45 fun b47 =>
 some (.tuple [.s (.int .i64 n41), .s x44, .s (.bool b47)], m35))
 (fun d38 vs36 m37 =>
 none) := by kernel_rfl

noncomputable def G81 : FuncId → FunA := fun g => bif Nat.beq g 109 then overdubref01_may else bif Nat.beq g 110 then overdubref01_Bits_TakeOnes else bif Nat.beq g 54 then overdubref01_Bits_Get else fun _ _ => none
theorem G81_109 : G81 109 = overdubref01_may := by kernel_rfl
theorem G81_110 : G81 110 = overdubref01_Bits_TakeOnes := by kernel_rfl
theorem G81_54 : G81 54 = overdubref01_Bits_Get := by kernel_rfl
def A81 : Ann := .two (.leaf) (.two (.two (.leaf) (.two (.two (.leaf) (.leaf)) (.leaf))) (.two (.leaf) (.two (.two (.leaf) (.two (.two (.leaf) (.leaf)) (.leaf))) (.two (.two (.leaf) (.two (.two (.leaf) (.two (.two (.leaf) (.two (.two (.leaf) (.leaf)) (.leaf))) (.two (.leaf) (.leaf)))) (.leaf))) (.two (.leaf) (.two (.join [(60, .b)] [0, 8, 13] [] (.leaf) (.two (.two (.leaf) (.leaf)) (.leaf))) (.two (.leaf) (.leaf))))))))
def R81 : Slots := [(4, .i .i64), (5, .s), (6, .b)]
noncomputable def overdubref01_Bits_TakeRice : FunA := denF Tryz.prog G81 Tryz.f81 A81 R81
theorem overdubref01_Bits_TakeRice_eq (p0 : SV) (p1 : Int) (μ : AMem) : overdubref01_Bits_TakeRice [.s p0, .s (.int .i64 p1)] μ =
 (overdubref01_may [.s (.int .i64 0), .s (.int .i64 p1)] μ).bind fun r1 =>
 asB r1.1 fun b2 =>
 bif (!b2) then
 (some (.tuple [.s (.int .i64 0), .s p0, .s (.bool false)], r1.2))
 else
 ((overdubref01_Bits_TakeOnes [.s p0, .s (.int .i64 24)] r1.2).bind fun r3 =>
 extrK 0 r3.1 fun t4 =>
 asI .i64 t4 fun n5 =>
 extrK 1 r3.1 fun t6 =>
 asS t6 fun x7 =>
 extrK 2 r3.1 fun t8 =>
 asB t8 fun b9 =>
 bif (!b9) then
 (some (.tuple [.s (.int .i64 0), .s p0, .s (.bool false)], r3.2))
 else
 (bif decide (n5 < 24) then
 ((overdubref01_Bits_Get [.s x7, .s (.int .i64 p1)] r3.2).bind fun r10 =>
 extrK 0 r10.1 fun t11 =>
 asI .i64 t11 fun n12 =>
 extrK 1 r10.1 fun t13 =>
 asS t13 fun x14 =>
 extrK 2 r10.1 fun t15 =>
 asB t15 fun b16 =>
 bif (!b16) then
 (some (.tuple [.s (.int .i64 0), .s p0, .s (.bool false)], r10.2))
 else
 (if (IntKind.wrap .u64 p1) < 0 then none else
 (some (.tuple [.s (.int .i64 (IntKind.wrap .i64 ((IntKind.wrap .i64 (n5 * 2 ^ (min (Int.toNat (IntKind.wrap .u64 p1)) (IntKind.bits .i64)))) + n12))), .s x14, .s (.bool true)], r10.2))))
 else
 ((overdubref01_Bits_Get [.s x7, .s (.int .i64 32)] r3.2).bind fun r17 =>
 extrK 0 r17.1 fun t18 =>
 asI .i64 t18 fun n19 =>
 extrK 1 r17.1 fun t20 =>
 asS t20 fun x21 =>
 extrK 2 r17.1 fun t22 =>
 asB t22 fun b23 =>
 seqJ
 (bif !(!b23) then
 (if (IntKind.wrap .u64 p1) < 0 then none else
 (some (.normal, [.s (.bool (decide ((Int.fdiv n19 (2 ^ (min (Int.toNat (IntKind.wrap .u64 p1)) (IntKind.bits .i64)))) < 24)))], r17.2)))
 else
 (some (.normal, [.s (.bool true)], r17.2)))
 (fun vs24 m25 =>
 headK vs24 fun a26 r27 =>
 asB a26 fun b28 =>
 bif b28 then
 (some (.tuple [.s (.int .i64 0), .s p0, .s (.bool false)], m25))
 else
 (some (.tuple [.s (.int .i64 n19), .s x21, .s (.bool true)], m25)))
 (fun vs29 m30 =>
 headK vs29 fun a34 r35 =>
 asI .i64 a34 fun n36 =>
 headK r35 fun a37 r38 =>
 asS a37 fun x39 =>
 headK r38 fun a40 r41 =>
 asB a40 fun b42 =>
 some (.tuple [.s (.int .i64 n36), .s x39, .s (.bool b42)], m30))
 (fun d33 vs31 m32 =>
 none)))) := by rw [← G81_109, ← G81_110, ← G81_54]; kernel_rfl

noncomputable def G82 : FuncId → FunA := fun _ _ _ => none
def A82 : Ann := .two (.leaf) (.two (.join [(8, .b)] [0] [] (.leaf) (.two (.two (.leaf) (.leaf)) (.leaf))) (.two (.two (.leaf) (.two (.two (.leaf) (.leaf)) (.leaf))) (.two (.leaf) (.leaf))))
def R82 : Slots := [(2, .i .i64)]
noncomputable def overdubref01_Zag : FunA := denF Tryz.prog G82 Tryz.f82 A82 R82
theorem overdubref01_Zag_eq (p0 : Int) (μ : AMem) : overdubref01_Zag [.s (.int .i64 p0)] μ =
 seqJ
 (bif !(decide (p0 < 0)) then
 (some (.normal, [.s (.bool (decide (p0 ≥ 2199023255552)))], μ))
 else
 (some (.normal, [.s (.bool true)], μ)))
 (fun vs1 m2 =>
 headK vs1 fun a3 r4 =>
 asB a3 fun b5 =>
 bif b5 then
 (some (.s (.int .i64 0), m2))
 else
 (bif ((Int.tmod p0 2) == 1) then
 (some (.s (.int .i64 (IntKind.wrap .i64 (Int.tdiv (IntKind.wrap .i64 (0 - (IntKind.wrap .i64 (p0 + 1)))) 2))), m2))
 else
 (some (.s (.int .i64 (IntKind.wrap .i64 (Int.tdiv p0 2))), m2))))
 (fun vs6 m7 =>
 headK vs6 fun a11 r12 =>
 asI .i64 a11 fun n13 =>
 some (.s (.int .i64 n13), m7))
 (fun d10 vs8 m9 =>
 none) := by kernel_rfl

noncomputable def G56 : FuncId → FunA := fun g => bif Nat.beq g 54 then overdubref01_Bits_Get else bif Nat.beq g 81 then overdubref01_Bits_TakeRice else bif Nat.beq g 82 then overdubref01_Zag else fun _ _ => none
theorem G56_54 : G56 54 = overdubref01_Bits_Get := by kernel_rfl
theorem G56_81 : G56 81 = overdubref01_Bits_TakeRice := by kernel_rfl
theorem G56_82 : G56 82 = overdubref01_Zag := by kernel_rfl
def A56 : Ann := .two (.leaf) (.two (.leaf) (.two (.join [(25, .b)] [0, 1, 7] [] (.leaf) (.two (.two (.leaf) (.leaf)) (.leaf))) (.two (.leaf) (.two (.two (.leaf) (.join [(0, .s), (9, .s)] [] [] (.loop [(0, .s), (9, .s), (10, .i .i64)] [1, 7] [0] (.two (.two (.leaf) (.two (.leaf) (.leaf))) (.two (.join [(0, .s), (1, .i .i64), (7, .i .i64), (9, .s), (10, .i .i64)] [] [] (.two (.leaf) (.two (.two (.leaf) (.two (.two (.leaf) (.leaf)) (.leaf))) (.two (.leaf) (.leaf)))) .leaf) (.leaf)))) .leaf)) (.two (.leaf) (.leaf))))))
def R56 : Slots := [(4, .s), (5, .s), (6, .b)]
noncomputable def overdubref05_takeResiduals : FunA := denF Tryz.prog G56 Tryz.f56 A56 R56
noncomputable def overdubref05_takeResiduals_L1_B (os vs : List AV) (μ : AMem) : Option Res := joinK [(0, .s), (9, .s), (10, .i .i64)] vs (envO [1, 7] os) fun e => den Tryz.prog G56 Tryz.f56.ntmps (cL (cL (cR (cL (cR (cR (cR (cR (bodyOf Tryz.f56))))))))) (aL (aL (aR (aL (aR (aR (aR (aR A56)))))))) { ret := R56, exits := [(0, [(0, .s), (9, .s)])] } Res e μ fun ex e μ => some (ex, valsOf (Lv.at { ret := R56, exits := [(0, [(0, .s), (9, .s)])] } [(0, .s), (9, .s), (10, .i .i64)] ex) e, μ)
noncomputable def overdubref05_takeResiduals_L1 (os vs : List AV) (μ : AMem) : Option Res := loopA (overdubref05_takeResiduals_L1_B os) vs μ
theorem overdubref05_takeResiduals_L1_B_eq (s1 : Int) (s7 : Int) (s0 : SV) (s9 : SV) (s10 : Int) (μ : AMem) : overdubref05_takeResiduals_L1_B [.s (.int .i64 s1), .s (.int .i64 s7)] [.s s0, .s s9, .s (.int .i64 s10)] μ =
 bif decide (s10 < s1) then
 ((overdubref01_Bits_TakeRice [.s s0, .s (.int .i64 s7)] μ).bind fun r47 =>
 extrK 0 r47.1 fun t48 =>
 asI .i64 t48 fun n49 =>
 extrK 1 r47.1 fun t50 =>
 asS t50 fun x51 =>
 extrK 2 r47.1 fun t52 =>
 asB t52 fun b53 =>
 bif (!b53) then
 (some (.ret, [.s .nilSlice, .s s0, .s (.bool false)], r47.2))
 else
 ((overdubref01_Zag [.s (.int .i64 n49)] (r47.2.bump 6)).bind fun r54 =>
 asI .i64 r54.1 fun n55 =>
 appendA 3 1 8 (r47.2.next + 4) (r54.2.set (r47.2.next + 3) (rowObj [.int .i64 n55] 1 3 (some 1))) (.s s9) (.s (.slice (r47.2.next + 3) 0 0 1)) fun x56 m57 =>
 asS x56 fun x58 =>
 some (.normal, [.s x51, .s x58, .s (.int .i64 (IntKind.wrap .i64 (s10 + 1)))], m57)))
 else
 (some (.exit 0, [.s s0, .s s9], μ)) := by rw [← G56_81, ← G56_82]; kernel_rfl
theorem overdubref05_takeResiduals_L1_eq (os vs : List AV) (μ : AMem) : overdubref05_takeResiduals_L1 os vs μ = (overdubref05_takeResiduals_L1_B os vs μ).bind fun r => match r.1 with | .normal => overdubref05_takeResiduals_L1 os r.2.1 r.2.2 | _ => some r := loopA_eq _ _ _
theorem overdubref05_takeResiduals_eq (p0 : SV) (p1 : Int) (μ : AMem) : overdubref05_takeResiduals [.s p0, .s (.int .i64 p1)] μ =
 (overdubref01_Bits_Get [.s p0, .s (.int .i64 5)] μ).bind fun r1 =>
 extrK 0 r1.1 fun t2 =>
 asI .i64 t2 fun n3 =>
 extrK 1 r1.1 fun t4 =>
 asS t4 fun x5 =>
 extrK 2 r1.1 fun t6 =>
 asB t6 fun b7 =>
 seqJ
 (bif !(!b7) then
 (some (.normal, [.s (.bool (decide (n3 > 24)))], r1.2))
 else
 (some (.normal, [.s (.bool true)], r1.2)))
 (fun vs8 m9 =>
 headK vs8 fun a10 r11 =>
 asB a10 fun b12 =>
 bif b12 then
 (some (.tuple [.s .nilSlice, .s x5, .s (.bool false)], m9))
 else
 (seqJ (overdubref05_takeResiduals_L1 [.s (.int .i64 p1), .s (.int .i64 n3)] [.s x5, .s .nilSlice, .s (.int .i64 0)] m9)
 (fun _ _ => none)
 (fun vs13 m14 =>
 headK vs13 fun a18 r19 =>
 asS a18 fun x20 =>
 headK r19 fun a21 r22 =>
 asS a21 fun x23 =>
 headK r22 fun a24 r25 =>
 asB a24 fun b26 =>
 some (.tuple [.s x20, .s x23, .s (.bool b26)], m14))
 (fun d17 vs15 m16 =>
 bif Nat.beq 0 d17 then (headK vs15 fun a27 r28 =>
 asS a27 fun x29 =>
 headK r28 fun a30 r31 =>
 asS a30 fun x32 =>
 some (.tuple [.s x32, .s x29, .s (.bool true)], m16)) else (none))))
 (fun vs33 m34 =>
 headK vs33 fun a38 r39 =>
 asS a38 fun x40 =>
 headK r39 fun a41 r42 =>
 asS a41 fun x43 =>
 headK r42 fun a44 r45 =>
 asB a44 fun b46 =>
 some (.tuple [.s x40, .s x43, .s (.bool b46)], m34))
 (fun d37 vs35 m36 =>
 none) := by rw [← G56_54]; kernel_rfl

noncomputable def G57 : FuncId → FunA := fun g => bif Nat.beq g 41 then overdubref05_May else bif Nat.beq g 83 then overdubref05_told else fun _ _ => none
theorem G57_41 : G57 41 = overdubref05_May := by kernel_rfl
theorem G57_83 : G57 83 = overdubref05_told := by kernel_rfl
def A57 : Ann := .two (.leaf) (.two (.two (.leaf) (.two (.two (.leaf) (.leaf)) (.leaf))) (.two (.two (.leaf) (.two (.leaf) (.two (.two (.leaf) (.leaf)) (.leaf)))) (.two (.leaf) (.two (.two (.leaf) (.join [(7, .s)] [] [] (.loop [(7, .s), (22, .i .i64)] [0, 1, 21] [0] (.two (.leaf) (.two (.two (.leaf) (.leaf)) (.two (.join [(0, .s), (1, .s), (7, .s), (21, .i .i64), (22, .i .i64)] [] [] (.two (.leaf) (.two (.join [(36, .b)] [0, 1, 7, 8, 21, 22] [] (.leaf) (.two (.two (.leaf) (.leaf)) (.leaf))) (.two (.ord [0, 1, 2, 4, 5, 6, 7, 3, 8, 9]) (.two (.join [(51, .b)] [0, 1, 7, 9, 21, 22] [] (.leaf) (.two (.two (.leaf) (.leaf)) (.leaf))) (.leaf))))) .leaf) (.leaf))))) .leaf)) (.two (.two (.leaf) (.two (.two (.leaf) (.leaf)) (.leaf))) (.two (.leaf) (.leaf)))))))
def R57 : Slots := [(4, .s), (5, .i .i64)]
noncomputable def overdubref05_Restore : FunA := denF Tryz.prog G57 Tryz.f57 A57 R57
noncomputable def overdubref05_Restore_L1_B (os vs : List AV) (μ : AMem) : Option Res := joinK [(7, .s), (22, .i .i64)] vs (envO [0, 1, 21] os) fun e => den Tryz.prog G57 Tryz.f57.ntmps (cL (cL (cR (cL (cR (cR (cR (cR (bodyOf Tryz.f57))))))))) (aL (aL (aR (aL (aR (aR (aR (aR A57)))))))) { ret := R57, exits := [(0, [(7, .s)])] } Res e μ fun ex e μ => some (ex, valsOf (Lv.at { ret := R57, exits := [(0, [(7, .s)])] } [(7, .s), (22, .i .i64)] ex) e, μ)
noncomputable def overdubref05_Restore_L1 (os vs : List AV) (μ : AMem) : Option Res := loopA (overdubref05_Restore_L1_B os) vs μ
theorem overdubref05_Restore_L1_B_eq (s0 : SV) (s1 : SV) (s21 : Int) (s7 : SV) (s22 : Int) (μ : AMem) : overdubref05_Restore_L1_B [.s s0, .s s1, .s (.int .i64 s21)] [.s s7, .s (.int .i64 s22)] μ =
 bif decide (s22 < s21) then
 (seqJ
 (indS 1 (.s s1) s22 fun p23 =>
 loadAt μ p23 fun v24 =>
 asI .i64 v24 fun n25 =>
 bif !(decide (n25 < (-1099511627776))) then
 (indS 1 (.s s1) s22 fun p26 =>
 loadAt μ p26 fun v27 =>
 asI .i64 v27 fun n28 =>
 some (.normal, [.s (.bool (decide (n28 > 1099511627776)))], μ))
 else
 (some (.normal, [.s (.bool true)], μ)))
 (fun vs29 m30 =>
 headK vs29 fun a31 r32 =>
 asB a31 fun b33 =>
 bif b33 then
 (some (.ret, [.s .nilSlice, .s (.int .i64 8)], m30))
 else
 ((lenS (.s s0)).bind fun l34 =>
 indS 1 (.s s1) s22 fun p35 =>
 loadAt m30 p35 fun v36 =>
 asI .i64 v36 fun n37 =>
 (overdubref05_told [.s s7, .s (.int .i64 ((l34 : Nat) : Int))] m30).bind fun r38 =>
 asI .i64 r38.1 fun n39 =>
 checkA ((loadAt r38.2 p35 some) = some (.s (.int .i64 n37)))
 (seqJ
 (bif !(decide ((IntKind.wrap .i64 (n39 + n37)) < (-8388608))) then
 (some (.normal, [.s (.bool (decide ((IntKind.wrap .i64 (n39 + n37)) > 8388607)))], r38.2))
 else
 (some (.normal, [.s (.bool true)], r38.2)))
 (fun vs40 m41 =>
 headK vs40 fun a42 r43 =>
 asB a42 fun b44 =>
 bif b44 then
 (some (.ret, [.s .nilSlice, .s (.int .i64 8)], m41))
 else
 (appendA 3 1 8 (m41.next + 3) ((m41.bump 5).set (m41.next + 2) (rowObj [.int .i64 (IntKind.wrap .i64 (n39 + n37))] 1 3 (some 1))) (.s s7) (.s (.slice (m41.next + 2) 0 0 1)) fun x45 m46 =>
 asS x45 fun x47 =>
 some (.normal, [.s x47, .s (.int .i64 (IntKind.wrap .i64 (s22 + 1)))], m46)))
 (fun vs48 m49 =>
 headK vs48 fun a53 r54 =>
 asS a53 fun x55 =>
 headK r54 fun a56 r57 =>
 asI .i64 a56 fun n58 =>
 some (.ret, [.s x55, .s (.int .i64 n58)], m49))
 (fun d52 vs50 m51 =>
 none))))
 (fun vs59 m60 =>
 headK vs59 fun a64 r65 =>
 asS a64 fun x66 =>
 headK r65 fun a67 r68 =>
 asI .i64 a67 fun n69 =>
 some (.ret, [.s x66, .s (.int .i64 n69)], m60))
 (fun d63 vs61 m62 =>
 none))
 else
 (some (.exit 0, [.s s7], μ)) := by rw [← G57_83]; kernel_rfl
theorem overdubref05_Restore_L1_eq (os vs : List AV) (μ : AMem) : overdubref05_Restore_L1 os vs μ = (overdubref05_Restore_L1_B os vs μ).bind fun r => match r.1 with | .normal => overdubref05_Restore_L1 os r.2.1 r.2.2 | _ => some r := loopA_eq _ _ _
theorem overdubref05_Restore_eq (p0 : SV) (p1 : SV) (μ : AMem) : overdubref05_Restore [.s p0, .s p1] μ =
 (lenS (.s p0)).bind fun l1 =>
 bif decide (((l1 : Nat) : Int) > 4) then
 (some (.tuple [.s .nilSlice, .s (.int .i64 1)], μ))
 else
 ((overdubref05_May [.s p0] μ).bind fun r2 =>
 asI .i64 r2.1 fun n3 =>
 bif (n3 != 0) then
 (some (.tuple [.s .nilSlice, .s (.int .i64 n3)], r2.2))
 else
 (appendA 3 1 8 (r2.2.next + 1) (r2.2.bump 3) (.s .nilSlice) (.s p0) fun x4 m5 =>
 asS x4 fun x6 =>
 (lenS (.s p1)).bind fun l7 =>
 seqJ (overdubref05_Restore_L1 [.s p0, .s p1, .s (.int .i64 ((l7 : Nat) : Int))] [.s x6, .s (.int .i64 0)] m5)
 (fun _ _ => none)
 (fun vs8 m9 =>
 headK vs8 fun a13 r14 =>
 asS a13 fun x15 =>
 headK r14 fun a16 r17 =>
 asI .i64 a16 fun n18 =>
 some (.tuple [.s x15, .s (.int .i64 n18)], m9))
 (fun d12 vs10 m11 =>
 bif Nat.beq 0 d12 then (headK vs10 fun a19 r20 =>
 asS a19 fun x21 =>
 (lenS (.s x21)).bind fun l22 =>
 bif decide (((l22 : Nat) : Int) > 64) then
 (some (.tuple [.s .nilSlice, .s (.int .i64 4)], m11))
 else
 (some (.tuple [.s x21, .s (.int .i64 0)], m11))) else (none)))) := by rw [← G57_41]; kernel_rfl

noncomputable def G58 : FuncId → FunA := fun g => bif Nat.beq g 84 then overdubref05_MayCoefs else bif Nat.beq g 41 then overdubref05_May else bif Nat.beq g 85 then overdubref05_Guess else fun _ _ => none
theorem G58_84 : G58 84 = overdubref05_MayCoefs := by kernel_rfl
theorem G58_41 : G58 41 = overdubref05_May := by kernel_rfl
theorem G58_85 : G58 85 = overdubref05_Guess := by kernel_rfl
def A58 : Ann := .two (.leaf) (.two (.join [(21, .b)] [0, 1, 2] [] (.leaf) (.two (.two (.leaf) (.leaf)) (.leaf))) (.two (.two (.leaf) (.two (.leaf) (.two (.two (.leaf) (.leaf)) (.leaf)))) (.two (.leaf) (.two (.two (.leaf) (.join [(9, .s)] [] [] (.loop [(9, .s), (31, .i .i64)] [1, 2, 30] [0] (.two (.leaf) (.two (.two (.leaf) (.leaf)) (.two (.join [(1, .s), (2, .s), (9, .s), (30, .i .i64), (31, .i .i64)] [] [] (.two (.leaf) (.two (.join [(45, .b)] [1, 2, 9, 10, 30, 31] [] (.leaf) (.two (.two (.leaf) (.leaf)) (.leaf))) (.two (.ord [0, 1, 3, 4, 5, 6, 2, 7, 8]) (.two (.join [(59, .b)] [1, 2, 9, 11, 30, 31] [] (.leaf) (.two (.two (.leaf) (.leaf)) (.leaf))) (.leaf))))) .leaf) (.leaf))))) .leaf)) (.two (.two (.leaf) (.two (.two (.leaf) (.leaf)) (.leaf))) (.two (.leaf) (.leaf)))))))
def R58 : Slots := [(6, .s), (7, .i .i64)]
noncomputable def overdubref05_LpcRestore : FunA := denF Tryz.prog G58 Tryz.f58 A58 R58
noncomputable def overdubref05_LpcRestore_L1_B (os vs : List AV) (μ : AMem) : Option Res := joinK [(9, .s), (31, .i .i64)] vs (envO [1, 2, 30] os) fun e => den Tryz.prog G58 Tryz.f58.ntmps (cL (cL (cR (cL (cR (cR (cR (cR (bodyOf Tryz.f58))))))))) (aL (aL (aR (aL (aR (aR (aR (aR A58)))))))) { ret := R58, exits := [(0, [(9, .s)])] } Res e μ fun ex e μ => some (ex, valsOf (Lv.at { ret := R58, exits := [(0, [(9, .s)])] } [(9, .s), (31, .i .i64)] ex) e, μ)
noncomputable def overdubref05_LpcRestore_L1 (os vs : List AV) (μ : AMem) : Option Res := loopA (overdubref05_LpcRestore_L1_B os) vs μ
theorem overdubref05_LpcRestore_L1_B_eq (s1 : SV) (s2 : SV) (s30 : Int) (s9 : SV) (s31 : Int) (μ : AMem) : overdubref05_LpcRestore_L1_B [.s s1, .s s2, .s (.int .i64 s30)] [.s s9, .s (.int .i64 s31)] μ =
 bif decide (s31 < s30) then
 (seqJ
 (indS 1 (.s s1) s31 fun p42 =>
 loadAt μ p42 fun v43 =>
 asI .i64 v43 fun n44 =>
 bif !(decide (n44 < (-1099511627776))) then
 (indS 1 (.s s1) s31 fun p45 =>
 loadAt μ p45 fun v46 =>
 asI .i64 v46 fun n47 =>
 some (.normal, [.s (.bool (decide (n47 > 1099511627776)))], μ))
 else
 (some (.normal, [.s (.bool true)], μ)))
 (fun vs48 m49 =>
 headK vs48 fun a50 r51 =>
 asB a50 fun b52 =>
 bif b52 then
 (some (.ret, [.s .nilSlice, .s (.int .i64 8)], m49))
 else
 (indS 1 (.s s1) s31 fun p53 =>
 loadAt m49 p53 fun v54 =>
 asI .i64 v54 fun n55 =>
 (overdubref05_Guess [.s s9, .s s2] m49).bind fun r56 =>
 asI .i64 r56.1 fun n57 =>
 checkA ((loadAt r56.2 p53 some) = some (.s (.int .i64 n55)))
 (seqJ
 (bif !(decide ((IntKind.wrap .i64 (n57 + n55)) < (-8388608))) then
 (some (.normal, [.s (.bool (decide ((IntKind.wrap .i64 (n57 + n55)) > 8388607)))], r56.2))
 else
 (some (.normal, [.s (.bool true)], r56.2)))
 (fun vs58 m59 =>
 headK vs58 fun a60 r61 =>
 asB a60 fun b62 =>
 bif b62 then
 (some (.ret, [.s .nilSlice, .s (.int .i64 8)], m59))
 else
 (appendA 3 1 8 (m59.next + 3) ((m59.bump 5).set (m59.next + 2) (rowObj [.int .i64 (IntKind.wrap .i64 (n57 + n55))] 1 3 (some 1))) (.s s9) (.s (.slice (m59.next + 2) 0 0 1)) fun x63 m64 =>
 asS x63 fun x65 =>
 some (.normal, [.s x65, .s (.int .i64 (IntKind.wrap .i64 (s31 + 1)))], m64)))
 (fun vs66 m67 =>
 headK vs66 fun a71 r72 =>
 asS a71 fun x73 =>
 headK r72 fun a74 r75 =>
 asI .i64 a74 fun n76 =>
 some (.ret, [.s x73, .s (.int .i64 n76)], m67))
 (fun d70 vs68 m69 =>
 none))))
 (fun vs77 m78 =>
 headK vs77 fun a82 r83 =>
 asS a82 fun x84 =>
 headK r83 fun a85 r86 =>
 asI .i64 a85 fun n87 =>
 some (.ret, [.s x84, .s (.int .i64 n87)], m78))
 (fun d81 vs79 m80 =>
 none))
 else
 (some (.exit 0, [.s s9], μ)) := by rw [← G58_85]; kernel_rfl
theorem overdubref05_LpcRestore_L1_eq (os vs : List AV) (μ : AMem) : overdubref05_LpcRestore_L1 os vs μ = (overdubref05_LpcRestore_L1_B os vs μ).bind fun r => match r.1 with | .normal => overdubref05_LpcRestore_L1 os r.2.1 r.2.2 | _ => some r := loopA_eq _ _ _
theorem overdubref05_LpcRestore_eq (p0 : SV) (p1 : SV) (p2 : SV) (μ : AMem) : overdubref05_LpcRestore [.s p0, .s p1, .s p2] μ =
 seqJ
 ((overdubref05_MayCoefs [.s p2] μ).bind fun r1 =>
 asB r1.1 fun b2 =>
 bif !(!b2) then
 ((lenS (.s p0)).bind fun l3 =>
 (lenS (.s p2)).bind fun l4 =>
 some (.normal, [.s (.bool (((l3 : Nat) : Int) != ((l4 : Nat) : Int)))], r1.2))
 else
 (some (.normal, [.s (.bool true)], r1.2)))
 (fun vs5 m6 =>
 headK vs5 fun a7 r8 =>
 asB a7 fun b9 =>
 bif b9 then
 (some (.tuple [.s .nilSlice, .s (.int .i64 1)], m6))
 else
 ((overdubref05_May [.s p0] m6).bind fun r10 =>
 asI .i64 r10.1 fun n11 =>
 bif (n11 != 0) then
 (some (.tuple [.s .nilSlice, .s (.int .i64 n11)], r10.2))
 else
 (appendA 3 1 8 (r10.2.next + 1) (r10.2.bump 3) (.s .nilSlice) (.s p0) fun x12 m13 =>
 asS x12 fun x14 =>
 (lenS (.s p1)).bind fun l15 =>
 seqJ (overdubref05_LpcRestore_L1 [.s p1, .s p2, .s (.int .i64 ((l15 : Nat) : Int))] [.s x14, .s (.int .i64 0)] m13)
 (fun _ _ => none)
 (fun vs16 m17 =>
 headK vs16 fun a21 r22 =>
 asS a21 fun x23 =>
 headK r22 fun a24 r25 =>
 asI .i64 a24 fun n26 =>
 some (.tuple [.s x23, .s (.int .i64 n26)], m17))
 (fun d20 vs18 m19 =>
 bif Nat.beq 0 d20 then (headK vs18 fun a27 r28 =>
 asS a27 fun x29 =>
 (lenS (.s x29)).bind fun l30 =>
 bif decide (((l30 : Nat) : Int) > 64) then
 (some (.tuple [.s .nilSlice, .s (.int .i64 4)], m19))
 else
 (some (.tuple [.s x29, .s (.int .i64 0)], m19))) else (none)))))
 (fun vs31 m32 =>
 headK vs31 fun a36 r37 =>
 asS a36 fun x38 =>
 headK r37 fun a39 r40 =>
 asI .i64 a39 fun n41 =>
 some (.tuple [.s x38, .s (.int .i64 n41)], m32))
 (fun d35 vs33 m34 =>
 none) := by rw [← G58_84, ← G58_41]; kernel_rfl

noncomputable def G59 : FuncId → FunA := fun _ _ _ => none
def A59 : Ann := .two (.leaf) (.two (.two (.leaf) (.join [] [] [] (.loop [(6, .i .i64)] [0, 5] [0] (.two (.leaf) (.two (.two (.leaf) (.leaf)) (.two (.join [(0, .s), (5, .i .i64), (6, .i .i64)] [] [] (.two (.leaf) (.two (.leaf) (.two (.two (.leaf) (.leaf)) (.leaf)))) .leaf) (.leaf))))) .leaf)) (.two (.leaf) (.leaf)))
def R59 : Slots := [(2, .b)]
noncomputable def overdubref01_Bits_Rest : FunA := denF Tryz.prog G59 Tryz.f59 A59 R59
noncomputable def overdubref01_Bits_Rest_L1_B (os vs : List AV) (μ : AMem) : Option Res := joinK [(6, .i .i64)] vs (envO [0, 5] os) fun e => den Tryz.prog G59 Tryz.f59.ntmps (cL (cL (cR (cL (cR (bodyOf Tryz.f59)))))) (aL (aL (aR (aL (aR A59))))) { ret := R59, exits := [(0, [])] } Res e μ fun ex e μ => some (ex, valsOf (Lv.at { ret := R59, exits := [(0, [])] } [(6, .i .i64)] ex) e, μ)
noncomputable def overdubref01_Bits_Rest_L1 (os vs : List AV) (μ : AMem) : Option Res := loopA (overdubref01_Bits_Rest_L1_B os) vs μ
theorem overdubref01_Bits_Rest_L1_B_eq (s0 : SV) (s5 : Int) (s6 : Int) (μ : AMem) : overdubref01_Bits_Rest_L1_B [.s s0, .s (.int .i64 s5)] [.s (.int .i64 s6)] μ =
 bif decide (s6 < s5) then
 (indS 1 (.s s0) s6 fun p10 =>
 loadAt μ p10 fun v11 =>
 asI .u8 v11 fun n12 =>
 bif (n12 != 0) then
 (some (.ret, [.s (.bool false)], μ))
 else
 (some (.normal, [.s (.int .i64 (IntKind.wrap .i64 (s6 + 1)))], μ)))
 else
 (some (.exit 0, [], μ)) := by kernel_rfl
theorem overdubref01_Bits_Rest_L1_eq (os vs : List AV) (μ : AMem) : overdubref01_Bits_Rest_L1 os vs μ = (overdubref01_Bits_Rest_L1_B os vs μ).bind fun r => match r.1 with | .normal => overdubref01_Bits_Rest_L1 os r.2.1 r.2.2 | _ => some r := loopA_eq _ _ _
theorem overdubref01_Bits_Rest_eq (p0 : SV) (μ : AMem) : overdubref01_Bits_Rest [.s p0] μ =
 (lenS (.s p0)).bind fun l1 =>
 seqJ (overdubref01_Bits_Rest_L1 [.s p0, .s (.int .i64 ((l1 : Nat) : Int))] [.s (.int .i64 0)] μ)
 (fun _ _ => none)
 (fun vs2 m3 =>
 headK vs2 fun a7 r8 =>
 asB a7 fun b9 =>
 some (.s (.bool b9), m3))
 (fun d6 vs4 m5 =>
 bif Nat.beq 0 d6 then (some (.s (.bool true), m5)) else (none)) := by kernel_rfl

noncomputable def G35 : FuncId → FunA := fun g => bif Nat.beq g 53 then overdubref01_Of else bif Nat.beq g 54 then overdubref01_Bits_Get else bif Nat.beq g 55 then overdubref05_samples else bif Nat.beq g 56 then overdubref05_takeResiduals else bif Nat.beq g 57 then overdubref05_Restore else bif Nat.beq g 58 then overdubref05_LpcRestore else bif Nat.beq g 59 then overdubref01_Bits_Rest else fun _ _ => none
theorem G35_53 : G35 53 = overdubref01_Of := by kernel_rfl
theorem G35_54 : G35 54 = overdubref01_Bits_Get := by kernel_rfl
theorem G35_55 : G35 55 = overdubref05_samples := by kernel_rfl
theorem G35_56 : G35 56 = overdubref05_takeResiduals := by kernel_rfl
theorem G35_57 : G35 57 = overdubref05_Restore := by kernel_rfl
theorem G35_58 : G35 58 = overdubref05_LpcRestore := by kernel_rfl
theorem G35_59 : G35 59 = overdubref01_Bits_Rest := by kernel_rfl
def A35 : Ann := .two (.leaf) (.two (.leaf) (.two (.leaf) (.two (.leaf) (.two (.join [(51, .b)] [4, 5, 7] [] (.leaf) (.two (.two (.leaf) (.leaf)) (.leaf))) (.two (.leaf) (.join [(9, .i .i64)] [4, 5, 7] [] (.join [(4, .s), (5, .i .i64), (7, .i .i64), (9, .i .i64)] [] [] (.two (.leaf) (.two (.leaf) (.two (.leaf) (.two (.leaf) (.two (.leaf) (.two (.leaf) (.leaf))))))) .leaf) (.two (.join [(77, .b)] [4, 5, 7, 9] [] (.leaf) (.two (.two (.leaf) (.leaf)) (.leaf))) (.two (.leaf) (.two (.two (.leaf) (.two (.two (.leaf) (.leaf)) (.leaf))) (.join [(10, .s)] [4, 5, 7, 9] [] (.two (.leaf) (.two (.join [(4, .s), (5, .i .i64), (7, .i .i64), (9, .i .i64), (10, .s)] [] [] (.loop [(10, .s)] [4, 5, 7, 9] [1] (.two (.two (.leaf) (.two (.leaf) (.leaf))) (.join [(4, .s), (5, .i .i64), (7, .i .i64), (9, .i .i64), (10, .s)] [] [] (.leaf) .leaf))) .leaf) (.leaf))) (.two (.leaf) (.two (.two (.leaf) (.join [(4, .s), (5, .i .i64), (7, .i .i64), (9, .i .i64), (10, .s), (11, .s)] [] [] (.loop [(4, .s), (11, .s), (12, .i .i64)] [5, 7, 9, 10] [3] (.two (.join [(105, .b)] [4, 5, 7, 9, 10, 11, 12] [] (.leaf) (.two (.leaf) (.leaf))) (.two (.join [(4, .s), (5, .i .i64), (7, .i .i64), (9, .i .i64), (10, .s), (11, .s), (12, .i .i64)] [] [] (.two (.leaf) (.two (.two (.leaf) (.two (.two (.leaf) (.leaf)) (.leaf))) (.two (.leaf) (.leaf)))) .leaf) (.leaf)))) .leaf)) (.join [(4, .s), (10, .s)] [] [] (.two (.leaf) (.two (.two (.leaf) (.two (.two (.leaf) (.two (.two (.leaf) (.leaf)) (.leaf))) (.two (.leaf) (.two (.leaf) (.join [(10, .s), (19, .i .i64)] [4] [] (.two (.leaf) (.two (.leaf) (.leaf))) (.two (.leaf) (.two (.two (.leaf) (.leaf)) (.leaf)))))))) (.leaf))) (.two (.two (.leaf) (.two (.two (.leaf) (.leaf)) (.leaf))) (.two (.leaf) (.leaf))))))))))))))))
def R35 : Slots := [(2, .s), (3, .i .i64)]
noncomputable def overdubref05_Decode : FunA := denF Tryz.prog G35 Tryz.f35 A35 R35
noncomputable def overdubref05_Decode_L2_B (os vs : List AV) (μ : AMem) : Option Res := joinK [(4, .s), (11, .s), (12, .i .i64)] vs (envO [5, 7, 9, 10] os) fun e => den Tryz.prog G35 Tryz.f35.ntmps (cL (cL (cR (cL (cR (cR (cR (cR (cR (cR (cR (cR (cR (cR (cR (cR (bodyOf Tryz.f35))))))))))))))))) (aL (aL (aR (aL (aR (aR (aR (aR (aR (aR (aR (aR (aR (aR (aR (aR A35)))))))))))))))) { ret := R35, exits := [(3, [(4, .s), (5, .i .i64), (7, .i .i64), (9, .i .i64), (10, .s), (11, .s)])] } Res e μ fun ex e μ => some (ex, valsOf (Lv.at { ret := R35, exits := [(3, [(4, .s), (5, .i .i64), (7, .i .i64), (9, .i .i64), (10, .s), (11, .s)])] } [(4, .s), (11, .s), (12, .i .i64)] ex) e, μ)
noncomputable def overdubref05_Decode_L2 (os vs : List AV) (μ : AMem) : Option Res := loopA (overdubref05_Decode_L2_B os) vs μ
noncomputable def overdubref05_Decode_L1_B (os vs : List AV) (μ : AMem) : Option Res := joinK [(10, .s)] vs (envO [4, 5, 7, 9] os) fun e => den Tryz.prog G35 Tryz.f35.ntmps (cL (cL (cL (cR (cL (cR (cR (cR (cR (cR (cR (cR (cR (cR (cR (bodyOf Tryz.f35)))))))))))))))) (aL (aL (aL (aR (aL (aR (aR (aR (aR (aR (aR (aR (aR (aR (aR A35))))))))))))))) { ret := R35, exits := [(1, [(4, .s), (5, .i .i64), (7, .i .i64), (9, .i .i64), (10, .s)])] } Res e μ fun ex e μ => some (ex, valsOf (Lv.at { ret := R35, exits := [(1, [(4, .s), (5, .i .i64), (7, .i .i64), (9, .i .i64), (10, .s)])] } [(10, .s)] ex) e, μ)
noncomputable def overdubref05_Decode_L1 (os vs : List AV) (μ : AMem) : Option Res := loopA (overdubref05_Decode_L1_B os) vs μ
theorem overdubref05_Decode_L2_B_eq (s5 : Int) (s7 : Int) (s9 : Int) (s10 : SV) (s4 : SV) (s11 : SV) (s12 : Int) (μ : AMem) : overdubref05_Decode_L2_B [.s (.int .i64 s5), .s (.int .i64 s7), .s (.int .i64 s9), .s s10] [.s s4, .s s11, .s (.int .i64 s12)] μ =
 seqJ
 (bif decide (s5 > 6) then
 (some (.normal, [.s (.bool (decide (s12 < s9)))], μ))
 else
 (some (.normal, [.s (.bool false)], μ)))
 (fun vs207 m208 =>
 headK vs207 fun a209 r210 =>
 asB a209 fun b211 =>
 bif b211 then
 ((overdubref01_Bits_Get [.s s4, .s (.int .i64 16)] m208).bind fun r212 =>
 extrK 0 r212.1 fun t213 =>
 asI .i64 t213 fun n214 =>
 extrK 1 r212.1 fun t215 =>
 asS t215 fun x216 =>
 extrK 2 r212.1 fun t217 =>
 asB t217 fun b218 =>
 bif (!b218) then
 (some (.ret, [.s .nilSlice, .s (.int .i64 2)], r212.2))
 else
 (appendA 3 1 8 (r212.2.next + 4) ((r212.2.bump 6).set (r212.2.next + 3) (rowObj [.int .i64 (IntKind.wrap .i64 (n214 - 32768))] 1 3 (some 1))) (.s s11) (.s (.slice (r212.2.next + 3) 0 0 1)) fun x219 m220 =>
 asS x219 fun x221 =>
 some (.normal, [.s x216, .s x221, .s (.int .i64 (IntKind.wrap .i64 (s12 + 1)))], m220)))
 else
 (some (.exit 3, [.s s4, .s (.int .i64 s5), .s (.int .i64 s7), .s (.int .i64 s9), .s s10, .s s11], m208)))
 (fun vs222 m223 =>
 headK vs222 fun a227 r228 =>
 asS a227 fun x229 =>
 headK r228 fun a230 r231 =>
 asI .i64 a230 fun n232 =>
 some (.ret, [.s x229, .s (.int .i64 n232)], m223))
 (fun d226 vs224 m225 =>
 none) := by rw [← G35_54]; kernel_rfl
theorem overdubref05_Decode_L2_eq (os vs : List AV) (μ : AMem) : overdubref05_Decode_L2 os vs μ = (overdubref05_Decode_L2_B os vs μ).bind fun r => match r.1 with | .normal => overdubref05_Decode_L2 os r.2.1 r.2.2 | _ => some r := loopA_eq _ _ _
theorem overdubref05_Decode_L1_B_eq (s4 : SV) (s5 : Int) (s7 : Int) (s9 : Int) (s10 : SV) (μ : AMem) : overdubref05_Decode_L1_B [.s s4, .s (.int .i64 s5), .s (.int .i64 s7), .s (.int .i64 s9)] [.s s10] μ =
 (lenS (.s s10)).bind fun l200 =>
 bif decide (((l200 : Nat) : Int) < s7) then
 (indS 1 (.s s10) 0 fun p201 =>
 loadAt (μ.bump 7) p201 fun v202 =>
 asI .i64 v202 fun n203 =>
 appendA 3 1 8 (μ.next + 5) ((μ.bump 7).set (μ.next + 4) (rowObj [.int .i64 n203] 1 3 (some 1))) (.s s10) (.s (.slice (μ.next + 4) 0 0 1)) fun x204 m205 =>
 asS x204 fun x206 =>
 some (.normal, [.s x206], m205))
 else
 (some (.exit 1, [.s s4, .s (.int .i64 s5), .s (.int .i64 s7), .s (.int .i64 s9), .s s10], μ)) := by kernel_rfl
theorem overdubref05_Decode_L1_eq (os vs : List AV) (μ : AMem) : overdubref05_Decode_L1 os vs μ = (overdubref05_Decode_L1_B os vs μ).bind fun r => match r.1 with | .normal => overdubref05_Decode_L1 os r.2.1 r.2.2 | _ => some r := loopA_eq _ _ _
theorem overdubref05_Decode_eq (p0 : SV) (μ : AMem) : overdubref05_Decode [.s p0] μ =
 (overdubref01_Of [.s p0] μ).bind fun r1 =>
 asS r1.1 fun x2 =>
 (overdubref01_Bits_Get [.s x2, .s (.int .i64 8)] r1.2).bind fun r3 =>
 extrK 0 r3.1 fun t4 =>
 asI .i64 t4 fun n5 =>
 extrK 1 r3.1 fun t6 =>
 asS t6 fun x7 =>
 extrK 2 r3.1 fun t8 =>
 asB t8 fun b9 =>
 (overdubref01_Bits_Get [.s x7, .s (.int .i64 8)] r3.2).bind fun r10 =>
 extrK 0 r10.1 fun t11 =>
 asI .i64 t11 fun n12 =>
 extrK 1 r10.1 fun t13 =>
 asS t13 fun x14 =>
 extrK 2 r10.1 fun t15 =>
 asB t15 fun b16 =>
 seqJ
 (bif !(!b9) then
 (bif !(!b16) then
 (bif !(decide (n5 > 18)) then
 (bif !(decide (n12 < 1)) then
 (some (.normal, [.s (.bool (decide (n12 > 64)))], r10.2))
 else
 (some (.normal, [.s (.bool true)], r10.2)))
 else
 (some (.normal, [.s (.bool true)], r10.2)))
 else
 (some (.normal, [.s (.bool true)], r10.2)))
 else
 (some (.normal, [.s (.bool true)], r10.2)))
 (fun vs17 m18 =>
 headK vs17 fun a19 r20 =>
 asB a19 fun b21 =>
 bif b21 then
 (some (.tuple [.s .nilSlice, .s (.int .i64 2)], m18))
 else
 (seqJ
 (bif (n5 == 0) then
 (some (.normal, [.s (.int .i64 1)], m18))
 else
 (bif (n5 == 1) then
 (some (.normal, [.s (.int .i64 n12)], m18))
 else
 (bif decide (n5 ≤ 6) then
 (some (.normal, [.s (.int .i64 (IntKind.wrap .i64 (n5 - 2)))], m18))
 else
 (some (.normal, [.s (.int .i64 (IntKind.wrap .i64 (n5 - 6)))], m18)))))
 (fun vs22 m23 =>
 headK vs22 fun a24 r25 =>
 asI .i64 a24 fun n26 =>
 seqJ
 (bif !(decide (n26 > n12)) then
 (bif decide (n5 > 6) then
 (some (.normal, [.s (.bool (decide (n26 ≥ n12)))], m23))
 else
 (some (.normal, [.s (.bool false)], m23)))
 else
 (some (.normal, [.s (.bool true)], m23)))
 (fun vs27 m28 =>
 headK vs27 fun a29 r30 =>
 asB a29 fun b31 =>
 bif b31 then
 (some (.tuple [.s .nilSlice, .s (.int .i64 2)], m28))
 else
 ((overdubref05_samples [.s x14, .s (.int .i64 n26)] m28).bind fun r32 =>
 extrK 0 r32.1 fun t33 =>
 asS t33 fun x34 =>
 extrK 1 r32.1 fun t35 =>
 asS t35 fun x36 =>
 extrK 2 r32.1 fun t37 =>
 asB t37 fun b38 =>
 bif (!b38) then
 (some (.tuple [.s .nilSlice, .s (.int .i64 2)], r32.2))
 else
 (seqJ
 (bif (n5 == 0) then
 (seqJ (overdubref05_Decode_L1 [.s x36, .s (.int .i64 n5), .s (.int .i64 n12), .s (.int .i64 n26)] [.s x34] r32.2)
 (fun _ _ => none)
 (fun vs39 m40 =>
 headK vs39 fun a44 r45 =>
 asS a44 fun x46 =>
 headK r45 fun a47 r48 =>
 asI .i64 a47 fun n49 =>
 some (.ret, [.s x46, .s (.int .i64 n49)], m40))
 (fun d43 vs41 m42 =>
 bif Nat.beq 1 d43 then (headK vs41 fun a50 r51 =>
 asS a50 fun x52 =>
 headK r51 fun a53 r54 =>
 asI .i64 a53 fun n55 =>
 headK r54 fun a56 r57 =>
 asI .i64 a56 fun n58 =>
 headK r57 fun a59 r60 =>
 asI .i64 a59 fun n61 =>
 headK r60 fun a62 r63 =>
 asS a62 fun x64 =>
 some (.normal, [.s x64], m42)) else (none)))
 else
 (some (.normal, [.s x34], r32.2)))
 (fun vs65 m66 =>
 headK vs65 fun a67 r68 =>
 asS a67 fun x69 =>
 seqJ (overdubref05_Decode_L2 [.s (.int .i64 n5), .s (.int .i64 n12), .s (.int .i64 n26), .s x69] [.s x36, .s .nilSlice, .s (.int .i64 0)] m66)
 (fun _ _ => none)
 (fun vs70 m71 =>
 headK vs70 fun a75 r76 =>
 asS a75 fun x77 =>
 headK r76 fun a78 r79 =>
 asI .i64 a78 fun n80 =>
 some (.tuple [.s x77, .s (.int .i64 n80)], m71))
 (fun d74 vs72 m73 =>
 bif Nat.beq 3 d74 then (headK vs72 fun a81 r82 =>
 asS a81 fun x83 =>
 headK r82 fun a84 r85 =>
 asI .i64 a84 fun n86 =>
 headK r85 fun a87 r88 =>
 asI .i64 a87 fun n89 =>
 headK r88 fun a90 r91 =>
 asI .i64 a90 fun n92 =>
 headK r91 fun a93 r94 =>
 asS a93 fun x95 =>
 headK r94 fun a96 r97 =>
 asS a96 fun x98 =>
 seqJ
 (bif decide (n86 > 1) then
 ((overdubref05_takeResiduals [.s x83, .s (.int .i64 (IntKind.wrap .i64 (n89 - n92)))] m73).bind fun r99 =>
 extrK 0 r99.1 fun t100 =>
 asS t100 fun x101 =>
 extrK 1 r99.1 fun t102 =>
 asS t102 fun x103 =>
 extrK 2 r99.1 fun t104 =>
 asB t104 fun b105 =>
 bif (!b105) then
 (some (.ret, [.s .nilSlice, .s (.int .i64 2)], r99.2))
 else
 (seqJ
 (bif decide (n86 ≤ 6) then
 ((overdubref05_Restore [.s x95, .s x101] r99.2).bind fun r106 =>
 extrK 0 r106.1 fun t107 =>
 asS t107 fun x108 =>
 extrK 1 r106.1 fun t109 =>
 asI .i64 t109 fun n110 =>
 some (.normal, [.s x108, .s (.int .i64 n110)], r106.2))
 else
 ((overdubref05_LpcRestore [.s x95, .s x101, .s x98] r99.2).bind fun r111 =>
 extrK 0 r111.1 fun t112 =>
 asS t112 fun x113 =>
 extrK 1 r111.1 fun t114 =>
 asI .i64 t114 fun n115 =>
 some (.normal, [.s x113, .s (.int .i64 n115)], r111.2)))
 (fun vs116 m117 =>
 headK vs116 fun a118 r119 =>
 asS a118 fun x120 =>
 headK r119 fun a121 r122 =>
 asI .i64 a121 fun n123 =>
 bif (n123 != 0) then
 (some (.ret, [.s .nilSlice, .s (.int .i64 2)], m117))
 else
 (some (.normal, [.s x103, .s x120], m117)))
 (fun vs124 m125 =>
 headK vs124 fun a129 r130 =>
 asS a129 fun x131 =>
 headK r130 fun a132 r133 =>
 asI .i64 a132 fun n134 =>
 some (.ret, [.s x131, .s (.int .i64 n134)], m125))
 (fun d128 vs126 m127 =>
 none)))
 else
 (some (.normal, [.s x83, .s x95], m73)))
 (fun vs135 m136 =>
 headK vs135 fun a137 r138 =>
 asS a137 fun x139 =>
 headK r138 fun a140 r141 =>
 asS a140 fun x142 =>
 (overdubref01_Bits_Rest [.s x139] m136).bind fun r143 =>
 asB r143.1 fun b144 =>
 bif (!b144) then
 (some (.tuple [.s .nilSlice, .s (.int .i64 2)], r143.2))
 else
 (some (.tuple [.s x142, .s (.int .i64 0)], r143.2)))
 (fun vs145 m146 =>
 headK vs145 fun a150 r151 =>
 asS a150 fun x152 =>
 headK r151 fun a153 r154 =>
 asI .i64 a153 fun n155 =>
 some (.tuple [.s x152, .s (.int .i64 n155)], m146))
 (fun d149 vs147 m148 =>
 none)) else (none)))
 (fun vs156 m157 =>
 headK vs156 fun a161 r162 =>
 asS a161 fun x163 =>
 headK r162 fun a164 r165 =>
 asI .i64 a164 fun n166 =>
 some (.tuple [.s x163, .s (.int .i64 n166)], m157))
 (fun d160 vs158 m159 =>
 none))))
 (fun vs167 m168 =>
 headK vs167 fun a172 r173 =>
 asS a172 fun x174 =>
 headK r173 fun a175 r176 =>
 asI .i64 a175 fun n177 =>
 some (.tuple [.s x174, .s (.int .i64 n177)], m168))
 (fun d171 vs169 m170 =>
 none))
 (fun vs178 m179 =>
 headK vs178 fun a183 r184 =>
 asS a183 fun x185 =>
 headK r184 fun a186 r187 =>
 asI .i64 a186 fun n188 =>
 some (.tuple [.s x185, .s (.int .i64 n188)], m179))
 (fun d182 vs180 m181 =>
 none)))
 (fun vs189 m190 =>
 headK vs189 fun a194 r195 =>
 asS a194 fun x196 =>
 headK r195 fun a197 r198 =>
 asI .i64 a197 fun n199 =>
 some (.tuple [.s x196, .s (.int .i64 n199)], m190))
 (fun d193 vs191 m192 =>
 none) := by rw [← G35_53, ← G35_54, ← G35_55, ← G35_56, ← G35_57, ← G35_58, ← G35_59]; kernel_rfl

noncomputable def G22 : FuncId → FunA := fun g => bif Nat.beq g 23 then overdubref01_Whole else bif Nat.beq g 35 then overdubref05_Decode else fun _ _ => none
theorem G22_23 : G22 23 = overdubref01_Whole := by kernel_rfl
theorem G22_35 : G22 35 = overdubref05_Decode := by kernel_rfl
def A22 : Ann := .two (.leaf) (.two (.two (.leaf) (.two (.two (.leaf) (.leaf)) (.leaf))) (.two (.leaf) (.leaf)))
def R22 : Slots := [(2, .s), (3, .i .i64)]
noncomputable def overdubref05_Open : FunA := denF Tryz.prog G22 Tryz.f22 A22 R22
theorem overdubref05_Open_eq (p0 : SV) (μ : AMem) : overdubref05_Open [.s p0] μ =
 (overdubref01_Whole [.s p0] μ).bind fun r1 =>
 asB r1.1 fun b2 =>
 bif (!b2) then
 (some (.tuple [.s .nilSlice, .s (.int .i64 2)], r1.2))
 else
 (cutS 1 (.s p0) 0 124 fun x3 =>
 (overdubref05_Decode [x3] r1.2).bind fun r4 =>
 extrK 0 r4.1 fun t5 =>
 asS t5 fun x6 =>
 extrK 1 r4.1 fun t7 =>
 asI .i64 t7 fun n8 =>
 some (.tuple [.s x6, .s (.int .i64 n8)], r4.2)) := by rw [← G22_23, ← G22_35]; kernel_rfl

noncomputable def G5 : FuncId → FunA := fun g => bif Nat.beq g 8 then block_New else bif Nat.beq g 18 then overdubkeep_Cut_byte else bif Nat.beq g 19 then block_Coder_Seal else bif Nat.beq g 20 then overdubref05_Seal else bif Nat.beq g 11 then overdubkeep_Same_byte else bif Nat.beq g 21 then block_Coder_Unseal else bif Nat.beq g 14 then block_Coder_Open else bif Nat.beq g 22 then overdubref05_Open else bif Nat.beq g 23 then overdubref01_Whole else bif Nat.beq g 17 then overdubkeep_Same_int else bif Nat.beq g 15 then block_Coder_Counts else bif Nat.beq g 12 then overdublaw09_wakes else fun _ _ => none
theorem G5_8 : G5 8 = block_New := by kernel_rfl
theorem G5_18 : G5 18 = overdubkeep_Cut_byte := by kernel_rfl
theorem G5_19 : G5 19 = block_Coder_Seal := by kernel_rfl
theorem G5_20 : G5 20 = overdubref05_Seal := by kernel_rfl
theorem G5_11 : G5 11 = overdubkeep_Same_byte := by kernel_rfl
theorem G5_21 : G5 21 = block_Coder_Unseal := by kernel_rfl
theorem G5_14 : G5 14 = block_Coder_Open := by kernel_rfl
theorem G5_22 : G5 22 = overdubref05_Open := by kernel_rfl
theorem G5_23 : G5 23 = overdubref01_Whole := by kernel_rfl
theorem G5_17 : G5 17 = overdubkeep_Same_int := by kernel_rfl
theorem G5_15 : G5 15 = block_Coder_Counts := by kernel_rfl
theorem G5_12 : G5 12 = overdublaw09_wakes := by kernel_rfl
def A5 : Ann := .two (.leaf) (.two (.leaf) (.two (.two (.leaf) (.two (.two (.leaf) (.leaf)) (.leaf))) (.two (.leaf) (.two (.two (.leaf) (.join [] [] [] (.loop [(8, .i .i64), (9, .i .i64), (10, .i .i64)] [0, 2, 7] [0] (.two (.join [(36, .b)] [0, 2, 7, 8, 9, 10] [] (.leaf) (.two (.leaf) (.leaf))) (.two (.join [(0, .s), (2, .b), (7, .s), (8, .i .i64), (9, .i .i64), (10, .i .i64)] [] [] (.two (.leaf) (.two (.leaf) (.two (.leaf) (.two (.join [(63, .b)] [0, 2, 7, 8, 9, 10, 11, 13, 14] [] (.leaf) (.two (.two (.leaf) (.leaf)) (.leaf))) (.join [(8, .i .i64)] [0, 2, 7, 9, 10, 11, 14] [] (.two (.leaf) (.two (.leaf) (.leaf))) (.two (.leaf) (.join [(16, .s)] [0, 2, 7, 8, 9, 10] [] (.join [(74, .b)] [0, 2, 7, 8, 9, 10, 14, 16] [] (.leaf) (.two (.leaf) (.leaf))) (.two (.leaf) (.two (.leaf) (.two (.leaf) (.two (.leaf) (.two (.join [(132, .b)] [0, 2, 7, 8, 9, 10, 18, 20] [] (.leaf) (.two (.two (.leaf) (.leaf)) (.leaf))) (.join [(9, .i .i64)] [0, 2, 7, 8, 10, 20] [] (.two (.leaf) (.two (.leaf) (.leaf))) (.join [(9, .i .i64)] [0, 2, 7, 8, 10] [] (.two (.leaf) (.two (.leaf) (.leaf))) (.two (.leaf) (.join [(153, .b)] [0, 2, 7, 8, 9, 10] [] (.leaf) (.two (.two (.leaf) (.leaf)) (.leaf)))))))))))))))))) .leaf) (.leaf)))) .leaf)) (.two (.leaf) (.leaf))))))
def R5 : Slots := [(6, .b)]
noncomputable def overdublaw09_BlockSeals : FunA := denF Tryz.prog G5 Tryz.f5 A5 R5
noncomputable def overdublaw09_BlockSeals_L1_B (os vs : List AV) (μ : AMem) : Option Res := joinK [(8, .i .i64), (9, .i .i64), (10, .i .i64)] vs (envO [0, 2, 7] os) fun e => den Tryz.prog G5 Tryz.f5.ntmps (cL (cL (cR (cL (cR (cR (cR (cR (bodyOf Tryz.f5))))))))) (aL (aL (aR (aL (aR (aR (aR (aR A5)))))))) { ret := R5, exits := [(0, [])] } Res e μ fun ex e μ => some (ex, valsOf (Lv.at { ret := R5, exits := [(0, [])] } [(8, .i .i64), (9, .i .i64), (10, .i .i64)] ex) e, μ)
noncomputable def overdublaw09_BlockSeals_L1 (os vs : List AV) (μ : AMem) : Option Res := loopA (overdublaw09_BlockSeals_L1_B os) vs μ
theorem overdublaw09_BlockSeals_L1_B_eq (s0 : SV) (s2 : Bool) (s7 : SV) (s8 : Int) (s9 : Int) (s10 : Int) (μ : AMem) : overdublaw09_BlockSeals_L1_B [.s s0, .s (.bool s2), .s s7] [.s (.int .i64 s8), .s (.int .i64 s9), .s (.int .i64 s10)] μ =
 seqJ
 ((lenS (.s s0)).bind fun l14 =>
 bif decide (s10 < ((l14 : Nat) : Int)) then
 (some (.normal, [.s (.bool (decide (s10 < 6)))], μ))
 else
 (some (.normal, [.s (.bool false)], μ)))
 (fun vs15 m16 =>
 headK vs15 fun a17 r18 =>
 asB a17 fun b19 =>
 bif b19 then
 (indS 1 (.s s0) s10 fun p20 =>
 loadAt m16 p20 fun v21 =>
 asS v21 fun x22 =>
 (overdubkeep_Cut_byte [.s x22, .s (.int .i64 140)] m16).bind fun r23 =>
 asS r23.1 fun x24 =>
 (block_Coder_Seal [.s s7, .s x24] r23.2).bind fun r25 =>
 extrK 0 r25.1 fun t26 =>
 asS t26 fun x27 =>
 extrK 1 r25.1 fun t28 =>
 asI .i64 t28 fun n29 =>
 (overdubref05_Seal [.s x24] r25.2).bind fun r30 =>
 extrK 0 r30.1 fun t31 =>
 asS t31 fun x32 =>
 extrK 1 r30.1 fun t33 =>
 asI .i64 t33 fun n34 =>
 seqJ
 (bif !(n29 != n34) then
 ((overdubkeep_Same_byte [.s x27, .s x32] r30.2).bind fun r35 =>
 asB r35.1 fun b36 =>
 some (.normal, [.s (.bool (!b36))], r35.2))
 else
 (some (.normal, [.s (.bool true)], r30.2)))
 (fun vs37 m38 =>
 headK vs37 fun a39 r40 =>
 asB a39 fun b41 =>
 bif b41 then
 (some (.ret, [.s (.bool false)], m38))
 else
 (seqJ
 (bif (n29 == 0) then
 (some (.normal, [.s (.int .i64 (IntKind.wrap .i64 (s8 + 1)))], m38))
 else
 (some (.normal, [.s (.int .i64 s8)], m38)))
 (fun vs42 m43 =>
 headK vs42 fun a44 r45 =>
 asI .i64 a44 fun n46 =>
 seqJ
 (seqJ
 (bif s2 then
 ((lenS (.s x32)).bind fun l47 =>
 some (.normal, [.s (.bool (decide (((l47 : Nat) : Int) > 0)))], m43))
 else
 (some (.normal, [.s (.bool false)], m43)))
 (fun vs48 m49 =>
 headK vs48 fun a50 r51 =>
 asB a50 fun b52 =>
 bif b52 then
 (some (.normal, [.s x32], m49))
 else
 (some (.normal, [.s x24], m49)))
 (fun vs53 m54 =>
 headK vs53 fun a58 r59 =>
 asB a58 fun b60 =>
 some (.ret, [.s (.bool b60)], m54))
 (fun d57 vs55 m56 =>
 none))
 (fun vs61 m62 =>
 headK vs61 fun a63 r64 =>
 asS a63 fun x65 =>
 (block_Coder_Unseal [.s s7, .s x65] m62).bind fun r66 =>
 extrK 0 r66.1 fun t67 =>
 asS t67 fun x68 =>
 extrK 1 r66.1 fun t69 =>
 asI .i64 t69 fun n70 =>
 (block_Coder_Open [.s s7, .s x65] r66.2).bind fun r71 =>
 extrK 0 r71.1 fun t72 =>
 asS t72 fun x73 =>
 extrK 1 r71.1 fun t74 =>
 asI .i64 t74 fun n75 =>
 (overdubref05_Open [.s x65] r71.2).bind fun r76 =>
 extrK 0 r76.1 fun t77 =>
 asS t77 fun x78 =>
 extrK 1 r76.1 fun t79 =>
 asI .i64 t79 fun n80 =>
 (overdubref01_Whole [.s x65] r76.2).bind fun r81 =>
 asB r81.1 fun b82 =>
 seqJ
 (bif !(!((n70 == 0) == b82)) then
 (bif (n70 != 0) then
 (bif !(n70 != 2) then
 ((lenS (.s x68)).bind fun l83 =>
 bif !(decide (((l83 : Nat) : Int) > 0)) then
 (bif b82 then
 (cutS 1 (.s x65) 0 124 fun x84 =>
 (overdubkeep_Same_byte [.s x68, x84] r81.2).bind fun r85 =>
 asB r85.1 fun b86 =>
 bif !(!b86) then
 (bif !(n75 != n80) then
 ((overdubkeep_Same_int [.s x73, .s x78] r85.2).bind fun r87 =>
 asB r87.1 fun b88 =>
 some (.normal, [.s (.bool (!b88))], r87.2))
 else
 (some (.normal, [.s (.bool true)], r85.2)))
 else
 (some (.normal, [.s (.bool true)], r85.2)))
 else
 (bif !(n75 != n80) then
 ((overdubkeep_Same_int [.s x73, .s x78] r81.2).bind fun r89 =>
 asB r89.1 fun b90 =>
 some (.normal, [.s (.bool (!b90))], r89.2))
 else
 (some (.normal, [.s (.bool true)], r81.2))))
 else
 (some (.normal, [.s (.bool true)], r81.2)))
 else
 (some (.normal, [.s (.bool true)], r81.2)))
 else
 (bif b82 then
 (cutS 1 (.s x65) 0 124 fun x91 =>
 (overdubkeep_Same_byte [.s x68, x91] r81.2).bind fun r92 =>
 asB r92.1 fun b93 =>
 bif !(!b93) then
 (bif !(n75 != n80) then
 ((overdubkeep_Same_int [.s x73, .s x78] r92.2).bind fun r94 =>
 asB r94.1 fun b95 =>
 some (.normal, [.s (.bool (!b95))], r94.2))
 else
 (some (.normal, [.s (.bool true)], r92.2)))
 else
 (some (.normal, [.s (.bool true)], r92.2)))
 else
 (bif !(n75 != n80) then
 ((overdubkeep_Same_int [.s x73, .s x78] r81.2).bind fun r96 =>
 asB r96.1 fun b97 =>
 some (.normal, [.s (.bool (!b97))], r96.2))
 else
 (some (.normal, [.s (.bool true)], r81.2)))))
 else
 (some (.normal, [.s (.bool true)], r81.2)))
 (fun vs98 m99 =>
 headK vs98 fun a100 r101 =>
 asB a100 fun b102 =>
 bif b102 then
 (some (.ret, [.s (.bool false)], m99))
 else
 (seqJ
 (bif (n70 == 0) then
 (some (.normal, [.s (.int .i64 (IntKind.wrap .i64 (s9 + 1)))], m99))
 else
 (some (.normal, [.s (.int .i64 s9)], m99)))
 (fun vs103 m104 =>
 headK vs103 fun a105 r106 =>
 asI .i64 a105 fun n107 =>
 seqJ
 (bif (n75 == 0) then
 (some (.normal, [.s (.int .i64 (IntKind.wrap .i64 (n107 + 1)))], m104))
 else
 (some (.normal, [.s (.int .i64 n107)], m104)))
 (fun vs108 m109 =>
 headK vs108 fun a110 r111 =>
 asI .i64 a110 fun n112 =>
 (block_Coder_Counts [.s s7] m109).bind fun r113 =>
 extrK 0 r113.1 fun t114 =>
 asI .i64 t114 fun n115 =>
 extrK 1 r113.1 fun t116 =>
 asI .i64 t116 fun n117 =>
 seqJ
 (bif !(n115 != n46) then
 (some (.normal, [.s (.bool (n117 != n112))], r113.2))
 else
 (some (.normal, [.s (.bool true)], r113.2)))
 (fun vs118 m119 =>
 headK vs118 fun a120 r121 =>
 asB a120 fun b122 =>
 bif b122 then
 (some (.ret, [.s (.bool false)], m119))
 else
 (some (.normal, [.s (.int .i64 n46), .s (.int .i64 n112), .s (.int .i64 (IntKind.wrap .i64 (s10 + 1)))], m119)))
 (fun vs123 m124 =>
 headK vs123 fun a128 r129 =>
 asB a128 fun b130 =>
 some (.ret, [.s (.bool b130)], m124))
 (fun d127 vs125 m126 =>
 none))
 (fun vs131 m132 =>
 headK vs131 fun a136 r137 =>
 asB a136 fun b138 =>
 some (.ret, [.s (.bool b138)], m132))
 (fun d135 vs133 m134 =>
 none))
 (fun vs139 m140 =>
 headK vs139 fun a144 r145 =>
 asB a144 fun b146 =>
 some (.ret, [.s (.bool b146)], m140))
 (fun d143 vs141 m142 =>
 none)))
 (fun vs147 m148 =>
 headK vs147 fun a152 r153 =>
 asB a152 fun b154 =>
 some (.ret, [.s (.bool b154)], m148))
 (fun d151 vs149 m150 =>
 none))
 (fun vs155 m156 =>
 headK vs155 fun a160 r161 =>
 asB a160 fun b162 =>
 some (.ret, [.s (.bool b162)], m156))
 (fun d159 vs157 m158 =>
 none))
 (fun vs163 m164 =>
 headK vs163 fun a168 r169 =>
 asB a168 fun b170 =>
 some (.ret, [.s (.bool b170)], m164))
 (fun d167 vs165 m166 =>
 none)))
 (fun vs171 m172 =>
 headK vs171 fun a176 r177 =>
 asB a176 fun b178 =>
 some (.ret, [.s (.bool b178)], m172))
 (fun d175 vs173 m174 =>
 none))
 else
 (some (.exit 0, [], m16)))
 (fun vs179 m180 =>
 headK vs179 fun a184 r185 =>
 asB a184 fun b186 =>
 some (.ret, [.s (.bool b186)], m180))
 (fun d183 vs181 m182 =>
 none) := by rw [← G5_18, ← G5_19, ← G5_20, ← G5_11, ← G5_21, ← G5_14, ← G5_22, ← G5_23, ← G5_17, ← G5_15]; kernel_rfl
theorem overdublaw09_BlockSeals_L1_eq (os vs : List AV) (μ : AMem) : overdublaw09_BlockSeals_L1 os vs μ = (overdublaw09_BlockSeals_L1_B os vs μ).bind fun r => match r.1 with | .normal => overdublaw09_BlockSeals_L1 os r.2.1 r.2.2 | _ => some r := loopA_eq _ _ _
theorem overdublaw09_BlockSeals_eq (p0 : SV) (p1 : SV) (p2 : Bool) (μ : AMem) : overdublaw09_BlockSeals [.s p0, .s p1, .s (.bool p2)] μ =
 (block_New [] μ).bind fun r1 =>
 asS r1.1 fun x2 =>
 (isNil (.s x2)).bind fun b3 =>
 bif b3 then
 (some (.s (.bool false), r1.2))
 else
 (seqJ (overdublaw09_BlockSeals_L1 [.s p0, .s (.bool p2), .s x2] [.s (.int .i64 0), .s (.int .i64 0), .s (.int .i64 0)] r1.2)
 (fun _ _ => none)
 (fun vs4 m5 =>
 headK vs4 fun a9 r10 =>
 asB a9 fun b11 =>
 some (.s (.bool b11), m5))
 (fun d8 vs6 m7 =>
 bif Nat.beq 0 d8 then ((overdublaw09_wakes [] m7).bind fun r12 =>
 asB r12.1 fun b13 =>
 some (.s (.bool b13), r12.2)) else (none))) := by rw [← G5_8, ← G5_12]; kernel_rfl

end Go.Proofs.YtnjenjbodcihmaaGreat
