/- The Go functions as plain functions. -/
import Derived.Test.YtnjenjbodcihmaaProg
import Derived.KernelRfl
import Derived.Test.YtnjenjbodcihmaaZb
/- The Go functions as plain functions over abstract memory, and what each comes to. -/
namespace Go.Proofs.Ytnjenjbodcihmaa
open Go Go.Proofs.Ytnjenjbodcihmaa.E
set_option maxRecDepth 100000
set_option linter.unusedVariables false
/-! ### overdub/overdubkeep.Within -/
noncomputable def G17 : FuncId → FunA := fun _ _ _ => none
def A17 : Ann := .two (.leaf) (.two (.two (.leaf) (.two (.two (.leaf) (.leaf)) (.leaf))) (.two (.leaf) (.join [(5, .i .i64)] [] [] (.two (.leaf) (.two (.leaf) (.leaf))) (.two (.leaf) (.leaf)))))
def R17 : Slots := [(4, .i .i64)]
noncomputable def overdubkeep_Within : FunA := denF Try.prog G17 Try.f17 A17 R17
theorem overdubkeep_Within_eq (p0 : Int) (p1 : Int) (μ : AMem) : overdubkeep_Within [.s (.int .i64 p0), .s (.int .i64 p1)] μ =
  bif decide (p1 < 1) then
  (some (.s (.int .i64 0), μ))
  else
  (if p1 = 0 then none else
    (seqJ
      (bif decide ((Int.tmod p0 p1) < 0) then
        (some (.normal, [.s (.int .i64 (IntKind.wrap .i64 ((Int.tmod p0 p1) + p1)))], μ))
        else
        (some (.normal, [.s (.int .i64 (Int.tmod p0 p1))], μ)))
      (fun vs1 m2 =>
        headK vs1 fun a3 r4 =>
        asI .i64 a3 fun n5 =>
        some (.s (.int .i64 n5), m2))
      (fun vs6 m7 =>
        headK vs6 fun a11 r12 =>
        asI .i64 a11 fun n13 =>
        some (.s (.int .i64 n13), m7))
      (fun d10 vs8 m9 =>
        none))) := by kernel_rfl

/-! ### overdub/overdublaw08.Tone -/
noncomputable def G7 : FuncId → FunA := fun g => bif Nat.beq g 17 then overdubkeep_Within else fun _ _ => none
theorem G7_17 : G7 17 = overdubkeep_Within := by kernel_rfl
def A7 : Ann := .two (.leaf) (.two (.leaf) (.two (.leaf) (.two (.leaf) (.join [(9, .i .i64), (10, .i .i64), (11, .i .i64)] [0, 1, 2, 3] [] (.two (.leaf) (.two (.ord [0, 1, 2, 5, 6, 7, 10, 11, 12, 3, 4, 8, 9, 13, 14, 15, 16, 17]) (.leaf))) (.two (.leaf) (.two (.two (.leaf) (.join [(12, .s)] [] [] (.loop [(12, .s), (13, .i .i64)] [0, 1, 2, 3, 9, 10, 11] [0] (.two (.two (.leaf) (.two (.leaf) (.leaf))) (.two (.join [(0, .s), (1, .i .i64), (2, .i .i64), (3, .i .i64), (9, .i .i64), (10, .i .i64), (11, .i .i64), (12, .s), (13, .i .i64)] [] [] (.two (.leaf) (.join [(14, .i .i64)] [0, 1, 2, 3, 9, 10, 11, 12, 13] [] (.two (.leaf) (.join [(0, .s), (1, .i .i64), (2, .i .i64), (3, .i .i64), (9, .i .i64), (10, .i .i64), (11, .i .i64), (12, .s), (13, .i .i64), (14, .i .i64)] [] [] (.two (.leaf) (.two (.leaf) (.two (.leaf) (.two (.leaf) (.two (.leaf) (.two (.leaf) (.leaf))))))) .leaf)) (.join [(14, .i .i64)] [0, 1, 2, 3, 9, 10, 11, 12, 13] [] (.join [(80, .b)] [0, 1, 2, 3, 9, 10, 11, 12, 13, 14] [] (.leaf) (.two (.leaf) (.leaf))) (.leaf)))) .leaf) (.leaf)))) .leaf)) (.two (.leaf) (.leaf))))))))
def R7 : Slots := [(8, .s)]
noncomputable def overdublaw08_Tone : FunA := denF Try.prog G7 Try.f7 A7 R7
noncomputable def overdublaw08_Tone_L1_B (os vs : List AV) (μ : AMem) : Option Res := joinK [(12, .s), (13, .i .i64)] vs (envO [0, 1, 2, 3, 9, 10, 11] os) fun e => den Try.prog G7 Try.f7.ntmps (cL (cL (cR (cL (cR (cR (cR (cR (cR (cR (bodyOf Try.f7))))))))))) (aL (aL (aR (aL (aR (aR (aR (aR (aR (aR A7)))))))))) { ret := R7, exits := [(0, [(12, .s)])] } Res e μ fun ex e μ => some (ex, valsOf (Lv.at { ret := R7, exits := [(0, [(12, .s)])] } [(12, .s), (13, .i .i64)] ex) e, μ)
noncomputable def overdublaw08_Tone_L1 (os vs : List AV) (μ : AMem) : Option Res := loopA (overdublaw08_Tone_L1_B os) vs μ
theorem overdublaw08_Tone_L1_B_eq (s0 : SV) (s1 : Int) (s2 : Int) (s3 : Int) (s9 : Int) (s10 : Int) (s11 : Int) (s12 : SV) (s13 : Int) (μ : AMem) : overdublaw08_Tone_L1_B [.s s0, .s (.int .i64 s1), .s (.int .i64 s2), .s (.int .i64 s3), .s (.int .i64 s9), .s (.int .i64 s10), .s (.int .i64 s11)] [.s s12, .s (.int .i64 s13)] μ =
  bif decide (s13 < s1) then
  (seqJ
    ((overdubkeep_Within [.s (.int .i64 s2), .s (.int .i64 4)] μ).bind fun r51 =>
      asI .i64 r51.1 fun n52 =>
      bif (n52 == 1) then
      (some (.normal, [.s (.int .i64 (IntKind.wrap .i64 (s9 + (IntKind.wrap .i64 (s10 * s13)))))], r51.2))
      else
      (bif (n52 == 2) then
        (some (.normal, [.s (.int .i64 (IntKind.wrap .i64 (s9 + (IntKind.wrap .i64 ((IntKind.wrap .i64 (s10 * s13)) + (IntKind.wrap .i64 ((IntKind.wrap .i64 (s11 * s13)) * s13)))))))], r51.2))
        else
        (bif (n52 == 3) then
          (some (.normal, [.s (.int .i64 (IntKind.wrap .i64 (s9 + (IntKind.wrap .i64 (s10 * (Int.tmod s13 7))))))], r51.2))
          else
          (some (.normal, [.s (.int .i64 s9)], r51.2)))))
    (fun vs53 m54 =>
      headK vs53 fun a55 r56 =>
      asI .i64 a55 fun n57 =>
      seqJ
      (seqJ
        ((lenS (.s s0)).bind fun l58 =>
          bif decide (s13 < ((l58 : Nat) : Int)) then
          (some (.normal, [.s (.bool (decide (s3 > 0)))], m54))
          else
          (some (.normal, [.s (.bool false)], m54)))
        (fun vs59 m60 =>
          headK vs59 fun a61 r62 =>
          asB a61 fun b63 =>
          bif b63 then
          (indS 1 (.s s0) s13 fun p64 =>
            loadAt m60 p64 fun v65 =>
            asI .i64 v65 fun n66 =>
            (overdubkeep_Within [.s (.int .i64 n66), .s (.int .i64 s3)] m60).bind fun r67 =>
            asI .i64 r67.1 fun n68 =>
            some (.normal, [.s (.int .i64 (IntKind.wrap .i64 (n57 + n68)))], r67.2))
          else
          (some (.normal, [.s (.int .i64 n57)], m60)))
        (fun vs69 m70 =>
          headK vs69 fun a74 r75 =>
          asS a74 fun x76 =>
          some (.ret, [.s x76], m70))
        (fun d73 vs71 m72 =>
          none))
      (fun vs77 m78 =>
        headK vs77 fun a79 r80 =>
        asI .i64 a79 fun n81 =>
        appendA 3 1 8 (m78.next + 3) ((m78.bump 5).set (m78.next + 2) (rowObj [.int .i64 n81] 1 3 (some 1))) (.s s12) (.s (.slice (m78.next + 2) 0 0 1)) fun x82 m83 =>
        asS x82 fun x84 =>
        some (.normal, [.s x84, .s (.int .i64 (IntKind.wrap .i64 (s13 + 1)))], m83))
      (fun vs85 m86 =>
        headK vs85 fun a90 r91 =>
        asS a90 fun x92 =>
        some (.ret, [.s x92], m86))
      (fun d89 vs87 m88 =>
        none))
    (fun vs93 m94 =>
      headK vs93 fun a98 r99 =>
      asS a98 fun x100 =>
      some (.ret, [.s x100], m94))
    (fun d97 vs95 m96 =>
      none))
  else
  (some (.exit 0, [.s s12], μ)) := by rw [← G7_17]; kernel_rfl
theorem overdublaw08_Tone_L1_eq (os vs : List AV) (μ : AMem) : overdublaw08_Tone_L1 os vs μ = (overdublaw08_Tone_L1_B os vs μ).bind fun r => match r.1 with | .normal => overdublaw08_Tone_L1 os r.2.1 r.2.2 | _ => some r := loopA_eq _ _ _
theorem overdublaw08_Tone_eq (p0 : SV) (p1 : Int) (p2 : Int) (p3 : Int) (μ : AMem) : overdublaw08_Tone [.s p0, .s (.int .i64 p1), .s (.int .i64 p2), .s (.int .i64 p3)] μ =
  (overdubkeep_Within [.s (.int .i64 p1), .s (.int .i64 65)] μ).bind fun r1 =>
  asI .i64 r1.1 fun n2 =>
  (overdubkeep_Within [.s (.int .i64 p3), .s (.int .i64 4000)] r1.2).bind fun r3 =>
  asI .i64 r3.1 fun n4 =>
  seqJ
  ((lenS (.s p0)).bind fun l5 =>
    bif decide (((l5 : Nat) : Int) > 2) then
    (indS 1 (.s p0) 0 fun p6 =>
      loadAt r3.2 p6 fun v7 =>
      asI .i64 v7 fun n8 =>
      indS 1 (.s p0) 1 fun p9 =>
      loadAt r3.2 p9 fun v10 =>
      asI .i64 v10 fun n11 =>
      indS 1 (.s p0) 2 fun p12 =>
      loadAt r3.2 p12 fun v13 =>
      asI .i64 v13 fun n14 =>
      (overdubkeep_Within [.s (.int .i64 n8), .s (.int .i64 100000)] r3.2).bind fun r15 =>
      asI .i64 r15.1 fun n16 =>
      checkA ((loadAt r15.2 p12 some) = some (.s (.int .i64 n14)))
      (checkA ((loadAt r15.2 p9 some) = some (.s (.int .i64 n11)))
        ((overdubkeep_Within [.s (.int .i64 n11), .s (.int .i64 2000)] r15.2).bind fun r17 =>
          asI .i64 r17.1 fun n18 =>
          checkA ((loadAt r17.2 p12 some) = some (.s (.int .i64 n14)))
          ((overdubkeep_Within [.s (.int .i64 n14), .s (.int .i64 40)] r17.2).bind fun r19 =>
            asI .i64 r19.1 fun n20 =>
            some (.normal, [.s (.int .i64 (IntKind.wrap .i64 (n16 - 50000))), .s (.int .i64 (IntKind.wrap .i64 (n18 - 1000))), .s (.int .i64 (IntKind.wrap .i64 (n20 - 20)))], r19.2)))))
    else
    (some (.normal, [.s (.int .i64 0), .s (.int .i64 0), .s (.int .i64 0)], r3.2)))
  (fun vs21 m22 =>
    headK vs21 fun a23 r24 =>
    asI .i64 a23 fun n25 =>
    headK r24 fun a26 r27 =>
    asI .i64 a26 fun n28 =>
    headK r27 fun a29 r30 =>
    asI .i64 a29 fun n31 =>
    seqJ (overdublaw08_Tone_L1 [.s p0, .s (.int .i64 n2), .s (.int .i64 p2), .s (.int .i64 n4), .s (.int .i64 n25), .s (.int .i64 n28), .s (.int .i64 n31)] [.s .nilSlice, .s (.int .i64 0)] m22)
    (fun _ _ => none)
    (fun vs32 m33 =>
      headK vs32 fun a37 r38 =>
      asS a37 fun x39 =>
      some (.s x39, m33))
    (fun d36 vs34 m35 =>
      bif Nat.beq 0 d36 then (headK vs34 fun a40 r41 =>
        asS a40 fun x42 =>
        some (.s x42, m35)) else (none)))
  (fun vs43 m44 =>
    headK vs43 fun a48 r49 =>
    asS a48 fun x50 =>
    some (.s x50, m44))
  (fun d47 vs45 m46 =>
    none) := by rw [← G7_17]; kernel_rfl

/-! ### overdub/overdubkeep.Samples -/
noncomputable def G8 : FuncId → FunA := fun g => bif Nat.beq g 17 then overdubkeep_Within else fun _ _ => none
theorem G8_17 : G8 17 = overdubkeep_Within := by kernel_rfl
def A8 : Ann := .two (.leaf) (.two (.leaf) (.two (.two (.leaf) (.join [(7, .s)] [] [] (.loop [(7, .s), (8, .i .i64)] [0, 1, 2] [0] (.two (.join [(18, .b)] [0, 1, 2, 7, 8] [] (.leaf) (.two (.leaf) (.leaf))) (.two (.join [(0, .s), (1, .i .i64), (2, .b), (7, .s), (8, .i .i64)] [] [] (.two (.leaf) (.join [(9, .i .i64)] [0, 1, 2, 7, 8] [] (.join [(31, .b)] [0, 1, 2, 7, 8, 9] [] (.leaf) (.two (.two (.leaf) (.join [(47, .b)] [0, 1, 2, 7, 8, 9] [] (.leaf) (.two (.leaf) (.leaf)))) (.leaf))) (.leaf))) .leaf) (.leaf)))) .leaf)) (.two (.leaf) (.leaf))))
def R8 : Slots := [(6, .s)]
noncomputable def overdubkeep_Samples : FunA := denF Try.prog G8 Try.f8 A8 R8
noncomputable def overdubkeep_Samples_L1_B (os vs : List AV) (μ : AMem) : Option Res := joinK [(7, .s), (8, .i .i64)] vs (envO [0, 1, 2] os) fun e => den Try.prog G8 Try.f8.ntmps (cL (cL (cR (cL (cR (cR (bodyOf Try.f8))))))) (aL (aL (aR (aL (aR (aR A8)))))) { ret := R8, exits := [(0, [(7, .s)])] } Res e μ fun ex e μ => some (ex, valsOf (Lv.at { ret := R8, exits := [(0, [(7, .s)])] } [(7, .s), (8, .i .i64)] ex) e, μ)
noncomputable def overdubkeep_Samples_L1 (os vs : List AV) (μ : AMem) : Option Res := loopA (overdubkeep_Samples_L1_B os) vs μ
theorem overdubkeep_Samples_L1_B_eq (s0 : SV) (s1 : Int) (s2 : Bool) (s7 : SV) (s8 : Int) (μ : AMem) : overdubkeep_Samples_L1_B [.s s0, .s (.int .i64 s1), .s (.bool s2)] [.s s7, .s (.int .i64 s8)] μ =
  seqJ
  ((lenS (.s s0)).bind fun l12 =>
    bif decide (s8 < ((l12 : Nat) : Int)) then
    (some (.normal, [.s (.bool (decide (s8 < s1)))], μ))
    else
    (some (.normal, [.s (.bool false)], μ)))
  (fun vs13 m14 =>
    headK vs13 fun a15 r16 =>
    asB a15 fun b17 =>
    bif b17 then
    (indS 1 (.s s0) s8 fun p18 =>
      loadAt m14 p18 fun v19 =>
      asI .i64 v19 fun n20 =>
      seqJ
      (seqJ
        (bif !(!s2) then
          (some (.normal, [.s (.bool ((Int.tmod n20 5) != 4))], m14))
          else
          (some (.normal, [.s (.bool true)], m14)))
        (fun vs21 m22 =>
          headK vs21 fun a23 r24 =>
          asB a23 fun b25 =>
          bif b25 then
          ((overdubkeep_Within [.s (.int .i64 (IntKind.wrap .i64 (n20 - (-8388608)))), .s (.int .i64 16777216)] m22).bind fun r26 =>
            asI .i64 r26.1 fun n27 =>
            seqJ
            (indS 1 (.s s0) s8 fun p28 =>
              loadAt r26.2 p28 fun v29 =>
              asI .i64 v29 fun n30 =>
              bif decide (n30 ≥ (-8388608)) then
              (indS 1 (.s s0) s8 fun p31 =>
                loadAt r26.2 p31 fun v32 =>
                asI .i64 v32 fun n33 =>
                some (.normal, [.s (.bool (decide (n33 ≤ 8388607)))], r26.2))
              else
              (some (.normal, [.s (.bool false)], r26.2)))
            (fun vs34 m35 =>
              headK vs34 fun a36 r37 =>
              asB a36 fun b38 =>
              bif b38 then
              (indS 1 (.s s0) s8 fun p39 =>
                loadAt m35 p39 fun v40 =>
                asI .i64 v40 fun n41 =>
                some (.normal, [.s (.int .i64 n41)], m35))
              else
              (some (.normal, [.s (.int .i64 (IntKind.wrap .i64 ((-8388608) + n27)))], m35)))
            (fun vs42 m43 =>
              headK vs42 fun a47 r48 =>
              asS a47 fun x49 =>
              some (.ret, [.s x49], m43))
            (fun d46 vs44 m45 =>
              none))
          else
          (some (.normal, [.s (.int .i64 n20)], m22)))
        (fun vs50 m51 =>
          headK vs50 fun a55 r56 =>
          asS a55 fun x57 =>
          some (.ret, [.s x57], m51))
        (fun d54 vs52 m53 =>
          none))
      (fun vs58 m59 =>
        headK vs58 fun a60 r61 =>
        asI .i64 a60 fun n62 =>
        appendA 3 1 8 (m59.next + 3) ((m59.bump 5).set (m59.next + 2) (rowObj [.int .i64 n62] 1 3 (some 1))) (.s s7) (.s (.slice (m59.next + 2) 0 0 1)) fun x63 m64 =>
        asS x63 fun x65 =>
        some (.normal, [.s x65, .s (.int .i64 (IntKind.wrap .i64 (s8 + 1)))], m64))
      (fun vs66 m67 =>
        headK vs66 fun a71 r72 =>
        asS a71 fun x73 =>
        some (.ret, [.s x73], m67))
      (fun d70 vs68 m69 =>
        none))
    else
    (some (.exit 0, [.s s7], m14)))
  (fun vs74 m75 =>
    headK vs74 fun a79 r80 =>
    asS a79 fun x81 =>
    some (.ret, [.s x81], m75))
  (fun d78 vs76 m77 =>
    none) := by rw [← G8_17]; kernel_rfl
theorem overdubkeep_Samples_L1_eq (os vs : List AV) (μ : AMem) : overdubkeep_Samples_L1 os vs μ = (overdubkeep_Samples_L1_B os vs μ).bind fun r => match r.1 with | .normal => overdubkeep_Samples_L1 os r.2.1 r.2.2 | _ => some r := loopA_eq _ _ _
theorem overdubkeep_Samples_eq (p0 : SV) (p1 : Int) (p2 : Bool) (μ : AMem) : overdubkeep_Samples [.s p0, .s (.int .i64 p1), .s (.bool p2)] μ =
  seqJ (overdubkeep_Samples_L1 [.s p0, .s (.int .i64 p1), .s (.bool p2)] [.s .nilSlice, .s (.int .i64 0)] μ)
  (fun _ _ => none)
  (fun vs1 m2 =>
    headK vs1 fun a6 r7 =>
    asS a6 fun x8 =>
    some (.s x8, m2))
  (fun d5 vs3 m4 =>
    bif Nat.beq 0 d5 then (headK vs3 fun a9 r10 =>
      asS a9 fun x11 =>
      some (.s x11, m4)) else (none)) := by kernel_rfl

/-! ### overdub/crc.New -/
noncomputable def G22 : FuncId → FunA := fun _ _ _ => none
def A22 : Ann := .two (.leaf) (.two (.leaf) (.leaf))
def R22 : Slots := [(0, .s)]
noncomputable def crc_New : FunA := denF Try.prog G22 Try.f22 A22 R22
theorem crc_New_eq  (μ : AMem) : crc_New [] μ =
  some (.s (.ptr (μ.next + 1) 0 0), ((μ.bump 3).set (μ.next + 1) (rowObj [.int .u32 0, .int .i32 0, .int .u32 0, .bool false, .int .u32 0, .int .u32 0, .int .u32 0, .int .u32 0, .int .u32 0, .int .u32 0, .int .u32 0, .int .u32 0, .int .u32 0, .int .u32 0, .int .u32 0, .int .u32 0, .int .u32 0, .int .u32 0, .int .u32 0, .int .u32 0, .int .u32 0, .int .u32 0, .int .u32 0, .int .u32 0, .int .u32 0, .int .u32 0, .int .u32 0, .int .u32 0, .int .u32 0, .int .u32 0, .int .u32 0, .int .u32 0, .int .u32 0, .int .u32 0, .int .u32 0, .int .u32 0, .int .u32 0, .int .u32 0, .int .u32 0, .int .u32 0, .int .u32 0, .int .u32 0, .int .u32 0, .int .u32 0, .int .u32 0, .int .u32 0, .int .u32 0, .int .u32 0, .int .u32 0, .int .u32 0, .int .u32 0, .int .u32 0, .int .u32 0, .int .u32 0, .int .u32 0, .int .u32 0, .int .u32 0, .int .u32 0, .int .u32 0, .int .u32 0, .int .u32 0, .int .u32 0, .int .u32 0, .int .u32 0, .int .u32 0, .int .u32 0, .int .u32 0, .int .u32 0, .int .u32 0, .int .u32 0, .int .u32 0, .int .u32 0, .int .u32 0, .int .u32 0, .int .u32 0, .int .u32 0, .int .u32 0, .int .u32 0, .int .u32 0, .int .u32 0, .int .u32 0, .int .u32 0, .int .u32 0, .int .u32 0, .int .u32 0, .int .u32 0, .int .u32 0, .int .u32 0, .int .u32 0, .int .u32 0, .int .u32 0, .int .u32 0, .int .u32 0, .int .u32 0, .int .u32 0, .int .u32 0, .int .u32 0, .int .u32 0, .int .u32 0, .int .u32 0, .int .u32 0, .int .u32 0, .int .u32 0, .int .u32 0, .int .u32 0, .int .u32 0, .int .u32 0, .int .u32 0, .int .u32 0, .int .u32 0, .int .u32 0, .int .u32 0, .int .u32 0, .int .u32 0, .int .u32 0, .int .u32 0, .int .u32 0, .int .u32 0, .int .u32 0, .int .u32 0, .int .u32 0, .int .u32 0, .int .u32 0, .int .u32 0, .int .u32 0, .int .u32 0, .int .u32 0, .int .u32 0, .int .u32 0, .int .u32 0, .int .u32 0, .int .u32 0, .int .u32 0, .int .u32 0, .int .u32 0, .int .u32 0, .int .u32 0, .int .u32 0, .int .u32 0, .int .u32 0, .int .u32 0, .int .u32 0, .int .u32 0, .int .u32 0, .int .u32 0, .int .u32 0, .int .u32 0, .int .u32 0, .int .u32 0, .int .u32 0, .int .u32 0, .int .u32 0, .int .u32 0, .int .u32 0, .int .u32 0, .int .u32 0, .int .u32 0, .int .u32 0, .int .u32 0, .int .u32 0, .int .u32 0, .int .u32 0, .int .u32 0, .int .u32 0, .int .u32 0, .int .u32 0, .int .u32 0, .int .u32 0, .int .u32 0, .int .u32 0, .int .u32 0, .int .u32 0, .int .u32 0, .int .u32 0, .int .u32 0, .int .u32 0, .int .u32 0, .int .u32 0, .int .u32 0, .int .u32 0, .int .u32 0, .int .u32 0, .int .u32 0, .int .u32 0, .int .u32 0, .int .u32 0, .int .u32 0, .int .u32 0, .int .u32 0, .int .u32 0, .int .u32 0, .int .u32 0, .int .u32 0, .int .u32 0, .int .u32 0, .int .u32 0, .int .u32 0, .int .u32 0, .int .u32 0, .int .u32 0, .int .u32 0, .int .u32 0, .int .u32 0, .int .u32 0, .int .u32 0, .int .u32 0, .int .u32 0, .int .u32 0, .int .u32 0, .int .u32 0, .int .u32 0, .int .u32 0, .int .u32 0, .int .u32 0, .int .u32 0, .int .u32 0, .int .u32 0, .int .u32 0, .int .u32 0, .int .u32 0, .int .u32 0, .int .u32 0, .int .u32 0, .int .u32 0, .int .u32 0, .int .u32 0, .int .u32 0, .int .u32 0, .int .u32 0, .int .u32 0, .int .u32 0, .int .u32 0, .int .u32 0, .int .u32 0, .int .u32 0, .int .u32 0, .int .u32 0, .int .u32 0, .int .u32 0, .int .u32 0, .int .u32 0, .int .u32 0, .int .u32 0, .int .u32 0, .int .u32 0, .int .u32 0, .int .u32 0, .int .u32 0, .int .u32 0, .int .u32 0, .int .u32 0, .int .u32 0, .int .u32 0, .int .u32 0, .int .u32 0, .int .u32 0, .int .u32 0, .int .u32 0, .int .u32 0, .int .u32 0] 260 80 (some 1)))) := by kernel_rfl

/-! ### overdub/block.New -/
noncomputable def G9 : FuncId → FunA := fun g => bif Nat.beq g 22 then crc_New else fun _ _ => none
theorem G9_22 : G9 22 = crc_New := by kernel_rfl
def A9 : Ann := .two (.leaf) (.two (.leaf) (.leaf))
def R9 : Slots := [(0, .s)]
noncomputable def block_New : FunA := denF Try.prog G9 Try.f9 A9 R9
theorem block_New_eq  (μ : AMem) : block_New [] μ =
  (crc_New [] (μ.bump 4)).bind fun r1 =>
  asS r1.1 fun x2 =>
  some (.s (.ptr (μ.next + 2) 0 0), (r1.2.set (μ.next + 2) (rowObj [x2, .int .i64 0, .int .i64 0] 3 60 (some 1)))) := by rw [← G9_22]; kernel_rfl

/-! ### overdub/fixed.Sample -/
noncomputable def G32 : FuncId → FunA := fun _ _ _ => none
def A32 : Ann := .two (.leaf) (.two (.leaf) (.leaf))
def R32 : Slots := [(2, .b)]
noncomputable def fixed_Sample : FunA := denF Try.prog G32 Try.f32 A32 R32
theorem fixed_Sample_eq (p0 : Int) (μ : AMem) : fixed_Sample [.s (.int .i64 p0)] μ =
  bif decide (p0 ≥ (-8388608)) then
  (some (.s (.bool (decide (p0 ≤ 8388607))), μ))
  else
  (some (.s (.bool false), μ)) := by kernel_rfl

/-! ### overdub/block.right -/
noncomputable def G23 : FuncId → FunA := fun g => bif Nat.beq g 32 then fixed_Sample else fun _ _ => none
theorem G23_32 : G23 32 = fixed_Sample := by kernel_rfl
def A23 : Ann := .two (.leaf) (.two (.two (.leaf) (.join [] [] [] (.loop [(7, .i .i64)] [5, 6] [0] (.two (.leaf) (.two (.two (.leaf) (.leaf)) (.two (.join [(5, .s), (6, .i .i64), (7, .i .i64)] [] [] (.two (.leaf) (.two (.leaf) (.two (.two (.leaf) (.leaf)) (.leaf)))) .leaf) (.leaf))))) .leaf)) (.two (.leaf) (.leaf)))
def R23 : Slots := [(2, .b)]
noncomputable def block_right : FunA := denF Try.prog G23 Try.f23 A23 R23
noncomputable def block_right_L1_B (os vs : List AV) (μ : AMem) : Option Res := joinK [(7, .i .i64)] vs (envO [5, 6] os) fun e => den Try.prog G23 Try.f23.ntmps (cL (cL (cR (cL (cR (bodyOf Try.f23)))))) (aL (aL (aR (aL (aR A23))))) { ret := R23, exits := [(0, [])] } Res e μ fun ex e μ => some (ex, valsOf (Lv.at { ret := R23, exits := [(0, [])] } [(7, .i .i64)] ex) e, μ)
noncomputable def block_right_L1 (os vs : List AV) (μ : AMem) : Option Res := loopA (block_right_L1_B os) vs μ
theorem block_right_L1_B_eq (s5 : SV) (s6 : Int) (s7 : Int) (μ : AMem) : block_right_L1_B [.s s5, .s (.int .i64 s6)] [.s (.int .i64 s7)] μ =
  bif decide (s7 < s6) then
  (indS 1 (.s s5) s7 fun p10 =>
    loadAt μ p10 fun v11 =>
    asI .i64 v11 fun n12 =>
    (fixed_Sample [.s (.int .i64 n12)] μ).bind fun r13 =>
    asB r13.1 fun b14 =>
    bif (!b14) then
    (some (.ret, [.s (.bool false)], r13.2))
    else
    (some (.normal, [.s (.int .i64 (IntKind.wrap .i64 (s7 + 1)))], r13.2)))
  else
  (some (.exit 0, [], μ)) := by rw [← G23_32]; kernel_rfl
theorem block_right_L1_eq (os vs : List AV) (μ : AMem) : block_right_L1 os vs μ = (block_right_L1_B os vs μ).bind fun r => match r.1 with | .normal => block_right_L1 os r.2.1 r.2.2 | _ => some r := loopA_eq _ _ _
theorem block_right_eq (p0 : SV) (μ : AMem) : block_right [.s p0] μ =
  (lenS (.s p0)).bind fun l1 =>
  seqJ (block_right_L1 [.s p0, .s (.int .i64 ((l1 : Nat) : Int))] [.s (.int .i64 0)] μ)
  (fun _ _ => none)
  (fun vs2 m3 =>
    headK vs2 fun a7 r8 =>
    asB a7 fun b9 =>
    some (.s (.bool b9), m3))
  (fun d6 vs4 m5 =>
    bif Nat.beq 0 d6 then (some (.s (.bool true), m5)) else (none)) := by kernel_rfl

/-! ### overdub/fixed.Check -/
noncomputable def G28 : FuncId → FunA := fun g => bif Nat.beq g 32 then fixed_Sample else fun _ _ => none
theorem G28_32 : G28 32 = fixed_Sample := by kernel_rfl
def A28 : Ann := .two (.leaf) (.two (.two (.leaf) (.join [(0, .s)] [] [] (.loop [(7, .i .i64)] [0, 5, 6] [0] (.two (.leaf) (.two (.two (.leaf) (.leaf)) (.two (.join [(0, .s), (5, .s), (6, .i .i64), (7, .i .i64)] [] [] (.two (.leaf) (.two (.leaf) (.two (.two (.leaf) (.leaf)) (.leaf)))) .leaf) (.leaf))))) .leaf)) (.two (.two (.leaf) (.two (.two (.leaf) (.leaf)) (.leaf))) (.two (.leaf) (.leaf))))
def R28 : Slots := [(2, .i .i64)]
noncomputable def fixed_Check : FunA := denF Try.prog G28 Try.f28 A28 R28
noncomputable def fixed_Check_L1_B (os vs : List AV) (μ : AMem) : Option Res := joinK [(7, .i .i64)] vs (envO [0, 5, 6] os) fun e => den Try.prog G28 Try.f28.ntmps (cL (cL (cR (cL (cR (bodyOf Try.f28)))))) (aL (aL (aR (aL (aR A28))))) { ret := R28, exits := [(0, [(0, .s)])] } Res e μ fun ex e μ => some (ex, valsOf (Lv.at { ret := R28, exits := [(0, [(0, .s)])] } [(7, .i .i64)] ex) e, μ)
noncomputable def fixed_Check_L1 (os vs : List AV) (μ : AMem) : Option Res := loopA (fixed_Check_L1_B os) vs μ
theorem fixed_Check_L1_B_eq (s0 : SV) (s5 : SV) (s6 : Int) (s7 : Int) (μ : AMem) : fixed_Check_L1_B [.s s0, .s s5, .s (.int .i64 s6)] [.s (.int .i64 s7)] μ =
  bif decide (s7 < s6) then
  (indS 1 (.s s5) s7 fun p14 =>
    loadAt μ p14 fun v15 =>
    asI .i64 v15 fun n16 =>
    (fixed_Sample [.s (.int .i64 n16)] μ).bind fun r17 =>
    asB r17.1 fun b18 =>
    bif (!b18) then
    (some (.ret, [.s (.int .i64 8)], r17.2))
    else
    (some (.normal, [.s (.int .i64 (IntKind.wrap .i64 (s7 + 1)))], r17.2)))
  else
  (some (.exit 0, [.s s0], μ)) := by rw [← G28_32]; kernel_rfl
theorem fixed_Check_L1_eq (os vs : List AV) (μ : AMem) : fixed_Check_L1 os vs μ = (fixed_Check_L1_B os vs μ).bind fun r => match r.1 with | .normal => fixed_Check_L1 os r.2.1 r.2.2 | _ => some r := loopA_eq _ _ _
theorem fixed_Check_eq (p0 : SV) (μ : AMem) : fixed_Check [.s p0] μ =
  (lenS (.s p0)).bind fun l1 =>
  seqJ (fixed_Check_L1 [.s p0, .s p0, .s (.int .i64 ((l1 : Nat) : Int))] [.s (.int .i64 0)] μ)
  (fun _ _ => none)
  (fun vs2 m3 =>
    headK vs2 fun a7 r8 =>
    asI .i64 a7 fun n9 =>
    some (.s (.int .i64 n9), m3))
  (fun d6 vs4 m5 =>
    bif Nat.beq 0 d6 then (headK vs4 fun a10 r11 =>
      asS a10 fun x12 =>
      (lenS (.s x12)).bind fun l13 =>
      bif decide (((l13 : Nat) : Int) > 64) then
      (some (.s (.int .i64 4), m5))
      else
      (some (.s (.int .i64 0), m5))) else (none)) := by kernel_rfl

/-! ### overdub/bits.NewWriter -/
noncomputable def G40 : FuncId → FunA := fun _ _ _ => none
def A40 : Ann := .two (.leaf) (.two (.leaf) (.leaf))
def R40 : Slots := [(0, .s)]
noncomputable def bits_NewWriter : FunA := denF Try.prog G40 Try.f40 A40 R40
theorem bits_NewWriter_eq  (μ : AMem) : bits_NewWriter [] μ =
  some (.s (.ptr (μ.next + 1) 0 0), ((μ.bump 3).set (μ.next + 1) (rowObj [.nilSlice, .int .i64 0] 2 100 (some 1)))) := by kernel_rfl

/-! ### (*overdub/bits.Writer).put -/
noncomputable def G54 : FuncId → FunA := fun _ _ _ => none
def A54 : Ann := .join [] [0, 1] [] (.two (.leaf) (.two (.leaf) (.leaf))) (.join [] [0] [] (.two (.leaf) (.two (.ord [0, 1, 2, 3, 4, 5, 6, 7, 8, 9, 10, 11, 12, 13, 14, 15, 16, 17, 18, 19]) (.leaf))) (.leaf))
def R54 : Slots := []
noncomputable def bits_Writer_put : FunA := denF Try.prog G54 Try.f54 A54 R54
theorem bits_Writer_put_eq (p0 q0 o0 : Nat) (p1 : Bool) (μ : AMem) : bits_Writer_put [.s (.ptr p0 q0 o0), .s (.bool p1)] μ =
  seqJ
  ((μ.cell p0 q0 (o0 + 1)).bind fun x1 =>
    asI .i64 (.s x1) fun n2 =>
    bif ((Int.tmod n2 8) == 0) then
    (((μ.bump 10).cell p0 q0 (o0 + 0)).bind fun x3 =>
      appendA 5 1 1 (μ.next + 6) ((μ.bump 10).set (μ.next + 5) (rowObj [.int .u8 0] 1 5 (some 1))) (.s x3) (.s (.slice (μ.next + 5) 0 0 1)) fun x4 m5 =>
      asS x4 fun x6 =>
      (m5.store p0 q0 (o0 + 0) [x6]).bind fun m7 =>
      some (.normal, [], m7))
    else
    (some (.normal, [], μ)))
  (fun vs8 m9 =>
    seqJ
    (bif p1 then
      ((m9.cell p0 q0 (o0 + 0)).bind fun x10 =>
        (m9.cell p0 q0 (o0 + 1)).bind fun x11 =>
        asI .i64 (.s x11) fun n12 =>
        indS 1 (.s x10) (IntKind.wrap .i64 (Int.tdiv n12 8)) fun p13 =>
        loadAt m9 p13 fun v14 =>
        asI .u8 v14 fun n15 =>
        (m9.cell p0 q0 (o0 + 1)).bind fun x16 =>
        asI .i64 (.s x16) fun n17 =>
        if (Int.tmod n17 8) < 0 then none else
        (indS 1 (.s x10) (IntKind.wrap .i64 (Int.tdiv n12 8)) fun p18 =>
          storeAt 1 m9 p18 (.s (.int .u8 (IntKind.wrap .u8 (BitVec.toNat ((BitVec.ofInt (IntKind.bits .u8) n15) ||| (BitVec.ofInt (IntKind.bits .u8) (Int.fdiv 128 (2 ^ (min (Int.toNat (Int.tmod n17 8)) (IntKind.bits .u8)))))))))) fun m19 =>
          some (.normal, [], m19)))
      else
      (some (.normal, [], m9)))
    (fun vs20 m21 =>
      (m21.cell p0 q0 (o0 + 1)).bind fun x22 =>
      asI .i64 (.s x22) fun n23 =>
      (m21.store p0 q0 (o0 + 1) [.int .i64 (IntKind.wrap .i64 (n23 + 1))]).bind fun m24 =>
      some (.tuple [], m24))
    (fun vs25 m26 =>
      some (.tuple [], m26))
    (fun d29 vs27 m28 =>
      none))
  (fun vs30 m31 =>
    some (.tuple [], m31))
  (fun d34 vs32 m33 =>
    none) := by kernel_rfl

/-! ### (*overdub/bits.Writer).Put -/
noncomputable def G41 : FuncId → FunA := fun g => bif Nat.beq g 54 then bits_Writer_put else fun _ _ => none
theorem G41_54 : G41 54 = bits_Writer_put := by kernel_rfl
def A41 : Ann := .two (.leaf) (.two (.join [(13, .b)] [0, 1, 2] [] (.leaf) (.two (.two (.leaf) (.leaf)) (.leaf))) (.two (.two (.leaf) (.join [] [] [] (.loop [(7, .i .i64)] [0, 1] [0] (.two (.two (.leaf) (.two (.leaf) (.leaf))) (.two (.join [(0, .s), (1, .i .i64), (7, .i .i64)] [] [] (.leaf) .leaf) (.leaf)))) .leaf)) (.two (.leaf) (.leaf))))
def R41 : Slots := [(6, .b)]
noncomputable def bits_Writer_Put : FunA := denF Try.prog G41 Try.f41 A41 R41
noncomputable def bits_Writer_Put_L1_B (os vs : List AV) (μ : AMem) : Option Res := joinK [(7, .i .i64)] vs (envO [0, 1] os) fun e => den Try.prog G41 Try.f41.ntmps (cL (cL (cR (cL (cR (cR (bodyOf Try.f41))))))) (aL (aL (aR (aL (aR (aR A41)))))) { ret := R41, exits := [(0, [])] } Res e μ fun ex e μ => some (ex, valsOf (Lv.at { ret := R41, exits := [(0, [])] } [(7, .i .i64)] ex) e, μ)
noncomputable def bits_Writer_Put_L1 (os vs : List AV) (μ : AMem) : Option Res := loopA (bits_Writer_Put_L1_B os) vs μ
theorem bits_Writer_Put_L1_B_eq (s0 t0 u0 : Nat) (s1 : Int) (s7 : Int) (μ : AMem) : bits_Writer_Put_L1_B [.s (.ptr s0 t0 u0), .s (.int .i64 s1)] [.s (.int .i64 s7)] μ =
  bif decide (s7 ≥ 0) then
  (if s7 < 0 then none else
    ((bits_Writer_put [.s (.ptr s0 t0 u0), .s (.bool ((IntKind.wrap .i64 (BitVec.toNat ((BitVec.ofInt (IntKind.bits .i64) (Int.fdiv s1 (2 ^ (min (Int.toNat s7) (IntKind.bits .i64))))) &&& (BitVec.ofInt (IntKind.bits .i64) 1)))) == 1))] μ).bind fun r22 =>
      some (.normal, [.s (.int .i64 (IntKind.wrap .i64 (s7 - 1)))], r22.2)))
  else
  (some (.exit 0, [], μ)) := by rw [← G41_54]; kernel_rfl
theorem bits_Writer_Put_L1_eq (os vs : List AV) (μ : AMem) : bits_Writer_Put_L1 os vs μ = (bits_Writer_Put_L1_B os vs μ).bind fun r => match r.1 with | .normal => bits_Writer_Put_L1 os r.2.1 r.2.2 | _ => some r := loopA_eq _ _ _
theorem bits_Writer_Put_eq (p0 q0 o0 : Nat) (p1 : Int) (p2 : Int) (μ : AMem) : bits_Writer_Put [.s (.ptr p0 q0 o0), .s (.int .i64 p1), .s (.int .i64 p2)] μ =
  seqJ
  (bif !(decide (p2 < 0)) then
    (some (.normal, [.s (.bool (decide (p2 > 62)))], μ))
    else
    (some (.normal, [.s (.bool true)], μ)))
  (fun vs1 m2 =>
    headK vs1 fun a3 r4 =>
    asB a3 fun b5 =>
    bif b5 then
    (some (.s (.bool false), m2))
    else
    (seqJ (bits_Writer_Put_L1 [.s (.ptr p0 q0 o0), .s (.int .i64 p1)] [.s (.int .i64 (IntKind.wrap .i64 (p2 - 1)))] m2)
      (fun _ _ => none)
      (fun vs6 m7 =>
        headK vs6 fun a11 r12 =>
        asB a11 fun b13 =>
        some (.s (.bool b13), m7))
      (fun d10 vs8 m9 =>
        bif Nat.beq 0 d10 then (some (.s (.bool true), m9)) else (none))))
  (fun vs14 m15 =>
    headK vs14 fun a19 r20 =>
    asB a19 fun b21 =>
    some (.s (.bool b21), m15))
  (fun d18 vs16 m17 =>
    none) := by kernel_rfl

/-! ### overdub/frame.samples -/
noncomputable def G42 : FuncId → FunA := fun g => bif Nat.beq g 41 then bits_Writer_Put else fun _ _ => none
theorem G42_41 : G42 41 = bits_Writer_Put := by kernel_rfl
def A42 : Ann := .two (.leaf) (.join [] [] [] (.loop [(8, .i .i64)] [0, 6, 7] [0] (.two (.leaf) (.two (.two (.leaf) (.leaf)) (.two (.join [(0, .s), (6, .s), (7, .i .i64), (8, .i .i64)] [] [] (.two (.leaf) (.leaf)) .leaf) (.leaf))))) .leaf)
def R42 : Slots := []
noncomputable def frame_samples : FunA := denF Try.prog G42 Try.f42 A42 R42
noncomputable def frame_samples_L1_B (os vs : List AV) (μ : AMem) : Option Res := joinK [(8, .i .i64)] vs (envO [0, 6, 7] os) fun e => den Try.prog G42 Try.f42.ntmps (cL (cL (cR (bodyOf Try.f42)))) (aL (aL (aR A42))) { ret := R42, exits := [(0, [])] } Res e μ fun ex e μ => some (ex, valsOf (Lv.at { ret := R42, exits := [(0, [])] } [(8, .i .i64)] ex) e, μ)
noncomputable def frame_samples_L1 (os vs : List AV) (μ : AMem) : Option Res := loopA (frame_samples_L1_B os) vs μ
theorem frame_samples_L1_B_eq (s0 t0 u0 : Nat) (s6 : SV) (s7 : Int) (s8 : Int) (μ : AMem) : frame_samples_L1_B [.s (.ptr s0 t0 u0), .s s6, .s (.int .i64 s7)] [.s (.int .i64 s8)] μ =
  bif decide (s8 < s7) then
  (indS 1 (.s s6) s8 fun p7 =>
    loadAt μ p7 fun v8 =>
    asI .i64 v8 fun n9 =>
    (bits_Writer_Put [.s (.ptr s0 t0 u0), .s (.int .i64 (IntKind.wrap .i64 (n9 - (-8388608)))), .s (.int .i64 24)] μ).bind fun r10 =>
    asB r10.1 fun b11 =>
    some (.normal, [.s (.int .i64 (IntKind.wrap .i64 (s8 + 1)))], r10.2))
  else
  (some (.exit 0, [], μ)) := by rw [← G42_41]; kernel_rfl
theorem frame_samples_L1_eq (os vs : List AV) (μ : AMem) : frame_samples_L1 os vs μ = (frame_samples_L1_B os vs μ).bind fun r => match r.1 with | .normal => frame_samples_L1 os r.2.1 r.2.2 | _ => some r := loopA_eq _ _ _
theorem frame_samples_eq (p0 q0 o0 : Nat) (p1 : SV) (μ : AMem) : frame_samples [.s (.ptr p0 q0 o0), .s p1] μ =
  (lenS (.s p1)).bind fun l1 =>
  seqJ (frame_samples_L1 [.s (.ptr p0 q0 o0), .s p1, .s (.int .i64 ((l1 : Nat) : Int))] [.s (.int .i64 0)] μ)
  (fun _ _ => none)
  (fun vs2 m3 =>
    some (.tuple [], m3))
  (fun d6 vs4 m5 =>
    bif Nat.beq 0 d6 then (some (.tuple [], m5)) else (none)) := by kernel_rfl

/-! ### overdub/fixed.Coefficients -/
noncomputable def G55 : FuncId → FunA := fun _ _ _ => none
def A55 : Ann := .two (.leaf) (.two (.two (.leaf) (.join [] [] [] (.two (.leaf) (.two (.two (.leaf) (.leaf)) (.two (.leaf) (.two (.two (.leaf) (.leaf)) (.two (.leaf) (.two (.two (.leaf) (.leaf)) (.two (.leaf) (.two (.two (.leaf) (.leaf)) (.leaf))))))))) .leaf)) (.two (.leaf) (.leaf)))
def R55 : Slots := [(2, .s)]
noncomputable def fixed_Coefficients : FunA := denF Try.prog G55 Try.f55 A55 R55
theorem fixed_Coefficients_eq (p0 : Int) (μ : AMem) : fixed_Coefficients [.s (.int .i64 p0)] μ =
  bif (p0 == 1) then
  (some (.s (.slice (μ.next + 0) 0 0 1), ((μ.bump 2).set (μ.next + 0) (rowObj [.int .i64 1] 1 3 (some 1)))))
  else
  (bif (p0 == 2) then
    (some (.s (.slice (μ.next + 0) 0 0 2), ((μ.bump 2).set (μ.next + 0) (rowObj [.int .i64 2, .int .i64 (-1)] 1 3 (some 2)))))
    else
    (bif (p0 == 3) then
      (some (.s (.slice (μ.next + 0) 0 0 3), ((μ.bump 2).set (μ.next + 0) (rowObj [.int .i64 3, .int .i64 (-3), .int .i64 1] 1 3 (some 3)))))
      else
      (bif (p0 == 4) then
        (some (.s (.slice (μ.next + 0) 0 0 4), ((μ.bump 2).set (μ.next + 0) (rowObj [.int .i64 4, .int .i64 (-6), .int .i64 4, .int .i64 (-1)] 1 3 (some 4)))))
        else
        (some (.s .nilSlice, μ))))) := by kernel_rfl

/-! ### overdub/fixed.guess -/
noncomputable def G56 : FuncId → FunA := fun _ _ _ => none
def A56 : Ann := .two (.leaf) (.two (.leaf) (.two (.two (.leaf) (.join [(5, .i .i64)] [] [] (.loop [(5, .i .i64), (10, .i .i64)] [0, 8, 9] [0] (.two (.leaf) (.two (.two (.leaf) (.leaf)) (.two (.join [(0, .s), (5, .i .i64), (8, .s), (9, .i .i64), (10, .i .i64)] [] [] (.two (.leaf) (.leaf)) .leaf) (.leaf))))) .leaf)) (.two (.leaf) (.leaf))))
def R56 : Slots := [(4, .i .i64)]
noncomputable def fixed_guess : FunA := denF Try.prog G56 Try.f56 A56 R56
noncomputable def fixed_guess_L1_B (os vs : List AV) (μ : AMem) : Option Res := joinK [(5, .i .i64), (10, .i .i64)] vs (envO [0, 8, 9] os) fun e => den Try.prog G56 Try.f56.ntmps (cL (cL (cR (cL (cR (cR (bodyOf Try.f56))))))) (aL (aL (aR (aL (aR (aR A56)))))) { ret := R56, exits := [(0, [(5, .i .i64)])] } Res e μ fun ex e μ => some (ex, valsOf (Lv.at { ret := R56, exits := [(0, [(5, .i .i64)])] } [(5, .i .i64), (10, .i .i64)] ex) e, μ)
noncomputable def fixed_guess_L1 (os vs : List AV) (μ : AMem) : Option Res := loopA (fixed_guess_L1_B os) vs μ
theorem fixed_guess_L1_B_eq (s0 : SV) (s8 : SV) (s9 : Int) (s5 : Int) (s10 : Int) (μ : AMem) : fixed_guess_L1_B [.s s0, .s s8, .s (.int .i64 s9)] [.s (.int .i64 s5), .s (.int .i64 s10)] μ =
  bif decide (s10 < s9) then
  (indS 1 (.s s8) s10 fun p13 =>
    loadAt μ p13 fun v14 =>
    asI .i64 v14 fun n15 =>
    (lenS (.s s0)).bind fun l16 =>
    indS 1 (.s s0) (IntKind.wrap .i64 ((IntKind.wrap .i64 (((l16 : Nat) : Int) - 1)) - s10)) fun p17 =>
    loadAt μ p17 fun v18 =>
    asI .i64 v18 fun n19 =>
    some (.normal, [.s (.int .i64 (IntKind.wrap .i64 (s5 + (IntKind.wrap .i64 (n15 * n19))))), .s (.int .i64 (IntKind.wrap .i64 (s10 + 1)))], μ))
  else
  (some (.exit 0, [.s (.int .i64 s5)], μ)) := by kernel_rfl
theorem fixed_guess_L1_eq (os vs : List AV) (μ : AMem) : fixed_guess_L1 os vs μ = (fixed_guess_L1_B os vs μ).bind fun r => match r.1 with | .normal => fixed_guess_L1 os r.2.1 r.2.2 | _ => some r := loopA_eq _ _ _
theorem fixed_guess_eq (p0 : SV) (p1 : SV) (μ : AMem) : fixed_guess [.s p0, .s p1] μ =
  (lenS (.s p1)).bind fun l1 =>
  seqJ (fixed_guess_L1 [.s p0, .s p1, .s (.int .i64 ((l1 : Nat) : Int))] [.s (.int .i64 0), .s (.int .i64 0)] μ)
  (fun _ _ => none)
  (fun vs2 m3 =>
    headK vs2 fun a7 r8 =>
    asI .i64 a7 fun n9 =>
    some (.s (.int .i64 n9), m3))
  (fun d6 vs4 m5 =>
    bif Nat.beq 0 d6 then (headK vs4 fun a10 r11 =>
      asI .i64 a10 fun n12 =>
      some (.s (.int .i64 n12), m5)) else (none)) := by kernel_rfl

/-! ### overdub/fixed.Residual -/
noncomputable def G43 : FuncId → FunA := fun g => bif Nat.beq g 28 then fixed_Check else bif Nat.beq g 55 then fixed_Coefficients else bif Nat.beq g 56 then fixed_guess else fun _ _ => none
theorem G43_28 : G43 28 = fixed_Check := by kernel_rfl
theorem G43_55 : G43 55 = fixed_Coefficients := by kernel_rfl
theorem G43_56 : G43 56 = fixed_guess := by kernel_rfl
def A43 : Ann := .two (.leaf) (.two (.join [(21, .b)] [0, 1] [] (.leaf) (.two (.two (.leaf) (.leaf)) (.leaf))) (.two (.two (.leaf) (.two (.leaf) (.two (.two (.leaf) (.leaf)) (.leaf)))) (.two (.leaf) (.two (.leaf) (.two (.two (.leaf) (.join [(8, .s)] [] [] (.loop [(8, .s), (9, .i .i64)] [0, 7] [0] (.two (.two (.leaf) (.two (.leaf) (.leaf))) (.two (.join [(0, .s), (7, .s), (8, .s), (9, .i .i64)] [] [] (.ord [0, 1, 2, 3, 4, 5, 6, 7, 8, 9, 10, 11, 12, 13]) .leaf) (.leaf)))) .leaf)) (.two (.leaf) (.leaf)))))))
def R43 : Slots := [(4, .s), (5, .i .i64)]
noncomputable def fixed_Residual : FunA := denF Try.prog G43 Try.f43 A43 R43
noncomputable def fixed_Residual_L1_B (os vs : List AV) (μ : AMem) : Option Res := joinK [(8, .s), (9, .i .i64)] vs (envO [0, 7] os) fun e => den Try.prog G43 Try.f43.ntmps (cL (cL (cR (cL (cR (cR (cR (cR (cR (bodyOf Try.f43)))))))))) (aL (aL (aR (aL (aR (aR (aR (aR (aR A43))))))))) { ret := R43, exits := [(0, [(8, .s)])] } Res e μ fun ex e μ => some (ex, valsOf (Lv.at { ret := R43, exits := [(0, [(8, .s)])] } [(8, .s), (9, .i .i64)] ex) e, μ)
noncomputable def fixed_Residual_L1 (os vs : List AV) (μ : AMem) : Option Res := loopA (fixed_Residual_L1_B os) vs μ
theorem fixed_Residual_L1_B_eq (s0 : SV) (s7 : SV) (s8 : SV) (s9 : Int) (μ : AMem) : fixed_Residual_L1_B [.s s0, .s s7] [.s s8, .s (.int .i64 s9)] μ =
  (lenS (.s s0)).bind fun l36 =>
  bif decide (s9 < ((l36 : Nat) : Int)) then
  (indS 1 (.s s0) s9 fun p37 =>
    loadAt (μ.bump 14) p37 fun v38 =>
    asI .i64 v38 fun n39 =>
    cutS 1 (.s s0) 0 s9 fun x40 =>
    (fixed_guess [x40, .s s7] (μ.bump 14)).bind fun r41 =>
    asI .i64 r41.1 fun n42 =>
    checkA ((loadAt r41.2 p37 some) = some (.s (.int .i64 n39)))
    (checkA (r41.2.obj (μ.next + 11) = none)
      (appendA 3 1 8 (μ.next + 12) (r41.2.set (μ.next + 11) (rowObj [.int .i64 (IntKind.wrap .i64 (n39 - n42))] 1 3 (some 1))) (.s s8) (.s (.slice (μ.next + 11) 0 0 1)) fun x43 m44 =>
        asS x43 fun x45 =>
        some (.normal, [.s x45, .s (.int .i64 (IntKind.wrap .i64 (s9 + 1)))], m44))))
  else
  (some (.exit 0, [.s s8], μ)) := by rw [← G43_56]; kernel_rfl
theorem fixed_Residual_L1_eq (os vs : List AV) (μ : AMem) : fixed_Residual_L1 os vs μ = (fixed_Residual_L1_B os vs μ).bind fun r => match r.1 with | .normal => fixed_Residual_L1 os r.2.1 r.2.2 | _ => some r := loopA_eq _ _ _
theorem fixed_Residual_eq (p0 : SV) (p1 : Int) (μ : AMem) : fixed_Residual [.s p0, .s (.int .i64 p1)] μ =
  seqJ
  (bif !(decide (p1 < 0)) then
    (bif !(decide (p1 > 4)) then
      ((lenS (.s p0)).bind fun l1 =>
        some (.normal, [.s (.bool (decide (p1 > ((l1 : Nat) : Int))))], μ))
      else
      (some (.normal, [.s (.bool true)], μ)))
    else
    (some (.normal, [.s (.bool true)], μ)))
  (fun vs2 m3 =>
    headK vs2 fun a4 r5 =>
    asB a4 fun b6 =>
    bif b6 then
    (some (.tuple [.s .nilSlice, .s (.int .i64 1)], m3))
    else
    ((fixed_Check [.s p0] m3).bind fun r7 =>
      asI .i64 r7.1 fun n8 =>
      bif (n8 != 0) then
      (some (.tuple [.s .nilSlice, .s (.int .i64 n8)], r7.2))
      else
      ((fixed_Coefficients [.s (.int .i64 p1)] r7.2).bind fun r9 =>
        asS r9.1 fun x10 =>
        seqJ (fixed_Residual_L1 [.s p0, .s x10] [.s .nilSlice, .s (.int .i64 p1)] r9.2)
        (fun _ _ => none)
        (fun vs11 m12 =>
          headK vs11 fun a16 r17 =>
          asS a16 fun x18 =>
          headK r17 fun a19 r20 =>
          asI .i64 a19 fun n21 =>
          some (.tuple [.s x18, .s (.int .i64 n21)], m12))
        (fun d15 vs13 m14 =>
          bif Nat.beq 0 d15 then (headK vs13 fun a22 r23 =>
            asS a22 fun x24 =>
            some (.tuple [.s x24, .s (.int .i64 0)], m14)) else (none)))))
  (fun vs25 m26 =>
    headK vs25 fun a30 r31 =>
    asS a30 fun x32 =>
    headK r31 fun a33 r34 =>
    asI .i64 a33 fun n35 =>
    some (.tuple [.s x32, .s (.int .i64 n35)], m26))
  (fun d29 vs27 m28 =>
    none) := by rw [← G43_28, ← G43_55]; kernel_rfl

/-! ### overdub/rice.Zig -/
noncomputable def G57 : FuncId → FunA := fun _ _ _ => none
def A57 : Ann := .two (.leaf) (.two (.join [(0, .i .i64)] [] [] (.join [(3, .b)] [0] [] (.leaf) (.two (.two (.leaf) (.leaf)) (.two (.leaf) (.two (.two (.leaf) (.leaf)) (.leaf))))) .leaf) (.two (.leaf) (.leaf)))
def R57 : Slots := [(2, .i .i64)]
noncomputable def rice_Zig : FunA := denF Try.prog G57 Try.f57 A57 R57
theorem rice_Zig_eq (p0 : Int) (μ : AMem) : rice_Zig [.s (.int .i64 p0)] μ =
  seqJ
  (bif !(decide (p0 < (-1099511627776))) then
    (some (.normal, [.s (.bool (decide (p0 ≥ 1099511627776)))], μ))
    else
    (some (.normal, [.s (.bool true)], μ)))
  (fun vs1 m2 =>
    headK vs1 fun a3 r4 =>
    asB a3 fun b5 =>
    bif b5 then
    (some (.s (.int .i64 0), m2))
    else
    (bif decide (p0 < 0) then
      (some (.s (.int .i64 (IntKind.wrap .i64 ((IntKind.wrap .i64 ((-2) * p0)) - 1))), m2))
      else
      (some (.s (.int .i64 (IntKind.wrap .i64 (2 * p0))), m2))))
  (fun vs6 m7 =>
    headK vs6 fun a11 r12 =>
    asI .i64 a11 fun n13 =>
    some (.s (.int .i64 n13), m7))
  (fun d10 vs8 m9 =>
    none) := by kernel_rfl

/-! ### overdub/rice.may -/
noncomputable def G71 : FuncId → FunA := fun _ _ _ => none
def A71 : Ann := .two (.leaf) (.two (.leaf) (.leaf))
def R71 : Slots := [(4, .b)]
noncomputable def rice_may : FunA := denF Try.prog G71 Try.f71 A71 R71
theorem rice_may_eq (p0 : Int) (p1 : Int) (μ : AMem) : rice_may [.s (.int .i64 p0), .s (.int .i64 p1)] μ =
  bif decide (p0 ≥ 0) then
  (bif decide (p0 < 4294967296) then
    (bif decide (p1 ≥ 0) then
      (some (.s (.bool (decide (p1 ≤ 24))), μ))
      else
      (some (.s (.bool false), μ)))
    else
    (some (.s (.bool false), μ)))
  else
  (some (.s (.bool false), μ)) := by kernel_rfl

/-! ### overdub/rice.Size -/
noncomputable def G72 : FuncId → FunA := fun g => bif Nat.beq g 71 then rice_may else fun _ _ => none
theorem G72_71 : G72 71 = rice_may := by kernel_rfl
def A72 : Ann := .two (.leaf) (.two (.join [] [] [] (.two (.leaf) (.two (.two (.leaf) (.leaf)) (.two (.leaf) (.two (.two (.leaf) (.leaf)) (.leaf))))) .leaf) (.two (.leaf) (.leaf)))
def R72 : Slots := [(4, .i .i64)]
noncomputable def rice_Size : FunA := denF Try.prog G72 Try.f72 A72 R72
theorem rice_Size_eq (p0 : Int) (p1 : Int) (μ : AMem) : rice_Size [.s (.int .i64 p0), .s (.int .i64 p1)] μ =
  (rice_may [.s (.int .i64 p0), .s (.int .i64 p1)] μ).bind fun r1 =>
  asB r1.1 fun b2 =>
  bif (!b2) then
  (some (.s (.int .i64 0), r1.2))
  else
  (if p1 < 0 then none else
    (bif decide ((Int.fdiv p0 (2 ^ (min (Int.toNat p1) (IntKind.bits .i64)))) < 24) then
      (if p1 < 0 then none else
        (some (.s (.int .i64 (IntKind.wrap .i64 ((IntKind.wrap .i64 ((Int.fdiv p0 (2 ^ (min (Int.toNat p1) (IntKind.bits .i64)))) + 1)) + p1))), r1.2)))
      else
      (some (.s (.int .i64 56), r1.2)))) := by rw [← G72_71]; kernel_rfl

/-! ### overdub/rice.Best -/
noncomputable def G58 : FuncId → FunA := fun g => bif Nat.beq g 71 then rice_may else bif Nat.beq g 72 then rice_Size else fun _ _ => none
theorem G58_71 : G58 71 = rice_may := by kernel_rfl
theorem G58_72 : G58 72 = rice_Size := by kernel_rfl
def A58 : Ann := .two (.leaf) (.two (.two (.leaf) (.join [(0, .s), (2, .i .i64), (3, .i .i64)] [] [] (.loop [(2, .i .i64), (3, .i .i64), (12, .i .i64)] [0, 10, 11] [0] (.two (.leaf) (.two (.two (.leaf) (.leaf)) (.two (.join [(0, .s), (2, .i .i64), (3, .i .i64), (10, .s), (11, .i .i64), (12, .i .i64)] [] [] (.two (.leaf) (.two (.leaf) (.two (.two (.leaf) (.leaf)) (.leaf)))) .leaf) (.leaf))))) .leaf)) (.two (.two (.leaf) (.join [(2, .i .i64), (3, .i .i64)] [] [] (.loop [(2, .i .i64), (3, .i .i64), (20, .i .i64)] [0] [2] (.two (.leaf) (.two (.two (.leaf) (.leaf)) (.join [(2, .i .i64), (3, .i .i64)] [0, 20] [] (.join [(0, .s), (2, .i .i64), (3, .i .i64), (20, .i .i64)] [] [] (.two (.leaf) (.two (.leaf) (.two (.two (.leaf) (.join [(0, .s), (2, .i .i64), (3, .i .i64), (6, .i .i64), (7, .i .i64), (20, .i .i64)] [] [] (.loop [(7, .i .i64), (25, .i .i64)] [0, 2, 3, 6, 20, 23, 24] [4] (.two (.leaf) (.two (.two (.leaf) (.leaf)) (.two (.join [(0, .s), (2, .i .i64), (3, .i .i64), (6, .i .i64), (7, .i .i64), (20, .i .i64), (23, .s), (24, .i .i64), (25, .i .i64)] [] [] (.two (.leaf) (.leaf)) .leaf) (.leaf))))) .leaf)) (.join [(41, .b)] [0, 2, 3, 6, 7, 20] [] (.leaf) (.two (.leaf) (.leaf)))))) .leaf) (.leaf))))) .leaf)) (.two (.leaf) (.leaf))))
def R58 : Slots := [(2, .i .i64), (3, .i .i64)]
noncomputable def rice_Best : FunA := denF Try.prog G58 Try.f58 A58 R58
noncomputable def rice_Best_L3_B (os vs : List AV) (μ : AMem) : Option Res := joinK [(7, .i .i64), (25, .i .i64)] vs (envO [0, 2, 3, 6, 20, 23, 24] os) fun e => den Try.prog G58 Try.f58.ntmps (cL (cL (cR (cL (cR (cR (cL (cL (cR (cR (cL (cL (cR (cL (cR (cR (bodyOf Try.f58))))))))))))))))) (aL (aL (aR (aL (aR (aR (aL (aL (aR (aR (aL (aL (aR (aL (aR (aR A58)))))))))))))))) { ret := R58, exits := [(4, [(0, .s), (2, .i .i64), (3, .i .i64), (6, .i .i64), (7, .i .i64), (20, .i .i64)]), (3, [(0, .s), (2, .i .i64), (3, .i .i64), (20, .i .i64)]), (2, [(2, .i .i64), (3, .i .i64)])] } Res e μ fun ex e μ => some (ex, valsOf (Lv.at { ret := R58, exits := [(4, [(0, .s), (2, .i .i64), (3, .i .i64), (6, .i .i64), (7, .i .i64), (20, .i .i64)]), (3, [(0, .s), (2, .i .i64), (3, .i .i64), (20, .i .i64)]), (2, [(2, .i .i64), (3, .i .i64)])] } [(7, .i .i64), (25, .i .i64)] ex) e, μ)
noncomputable def rice_Best_L3 (os vs : List AV) (μ : AMem) : Option Res := loopA (rice_Best_L3_B os) vs μ
noncomputable def rice_Best_L2_B (os vs : List AV) (μ : AMem) : Option Res := joinK [(2, .i .i64), (3, .i .i64), (20, .i .i64)] vs (envO [0] os) fun e => den Try.prog G58 Try.f58.ntmps (cL (cL (cR (cL (cR (cR (bodyOf Try.f58))))))) (aL (aL (aR (aL (aR (aR A58)))))) { ret := R58, exits := [(2, [(2, .i .i64), (3, .i .i64)])] } Res e μ fun ex e μ => some (ex, valsOf (Lv.at { ret := R58, exits := [(2, [(2, .i .i64), (3, .i .i64)])] } [(2, .i .i64), (3, .i .i64), (20, .i .i64)] ex) e, μ)
noncomputable def rice_Best_L2 (os vs : List AV) (μ : AMem) : Option Res := loopA (rice_Best_L2_B os) vs μ
noncomputable def rice_Best_L1_B (os vs : List AV) (μ : AMem) : Option Res := joinK [(2, .i .i64), (3, .i .i64), (12, .i .i64)] vs (envO [0, 10, 11] os) fun e => den Try.prog G58 Try.f58.ntmps (cL (cL (cR (cL (cR (bodyOf Try.f58)))))) (aL (aL (aR (aL (aR A58))))) { ret := R58, exits := [(0, [(0, .s), (2, .i .i64), (3, .i .i64)])] } Res e μ fun ex e μ => some (ex, valsOf (Lv.at { ret := R58, exits := [(0, [(0, .s), (2, .i .i64), (3, .i .i64)])] } [(2, .i .i64), (3, .i .i64), (12, .i .i64)] ex) e, μ)
noncomputable def rice_Best_L1 (os vs : List AV) (μ : AMem) : Option Res := loopA (rice_Best_L1_B os) vs μ
theorem rice_Best_L3_B_eq (s0 : SV) (s2 : Int) (s3 : Int) (s6 : Int) (s20 : Int) (s23 : SV) (s24 : Int) (s7 : Int) (s25 : Int) (μ : AMem) : rice_Best_L3_B [.s s0, .s (.int .i64 s2), .s (.int .i64 s3), .s (.int .i64 s6), .s (.int .i64 s20), .s s23, .s (.int .i64 s24)] [.s (.int .i64 s7), .s (.int .i64 s25)] μ =
  bif decide (s25 < s24) then
  (indS 1 (.s s23) s25 fun p109 =>
    loadAt μ p109 fun v110 =>
    asI .i64 v110 fun n111 =>
    (rice_Size [.s (.int .i64 n111), .s (.int .i64 s6)] μ).bind fun r112 =>
    asI .i64 r112.1 fun n113 =>
    some (.normal, [.s (.int .i64 (IntKind.wrap .i64 (s7 + n113))), .s (.int .i64 (IntKind.wrap .i64 (s25 + 1)))], r112.2))
  else
  (some (.exit 4, [.s s0, .s (.int .i64 s2), .s (.int .i64 s3), .s (.int .i64 s6), .s (.int .i64 s7), .s (.int .i64 s20)], μ)) := by rw [← G58_72]; kernel_rfl
theorem rice_Best_L3_eq (os vs : List AV) (μ : AMem) : rice_Best_L3 os vs μ = (rice_Best_L3_B os vs μ).bind fun r => match r.1 with | .normal => rice_Best_L3 os r.2.1 r.2.2 | _ => some r := loopA_eq _ _ _
theorem rice_Best_L2_B_eq (s0 : SV) (s2 : Int) (s3 : Int) (s20 : Int) (μ : AMem) : rice_Best_L2_B [.s s0] [.s (.int .i64 s2), .s (.int .i64 s3), .s (.int .i64 s20)] μ =
  bif decide (s20 < 25) then
  (seqJ
    ((lenS (.s s0)).bind fun l44 =>
      seqJ (rice_Best_L3 [.s s0, .s (.int .i64 s2), .s (.int .i64 s3), .s (.int .i64 s20), .s (.int .i64 s20), .s s0, .s (.int .i64 ((l44 : Nat) : Int))] [.s (.int .i64 0), .s (.int .i64 0)] μ)
      (fun _ _ => none)
      (fun vs45 m46 =>
        headK vs45 fun a50 r51 =>
        asI .i64 a50 fun n52 =>
        headK r51 fun a53 r54 =>
        asI .i64 a53 fun n55 =>
        some (.ret, [.s (.int .i64 n52), .s (.int .i64 n55)], m46))
      (fun d49 vs47 m48 =>
        bif Nat.beq 4 d49 then (headK vs47 fun a56 r57 =>
          asS a56 fun x58 =>
          headK r57 fun a59 r60 =>
          asI .i64 a59 fun n61 =>
          headK r60 fun a62 r63 =>
          asI .i64 a62 fun n64 =>
          headK r63 fun a65 r66 =>
          asI .i64 a65 fun n67 =>
          headK r66 fun a68 r69 =>
          asI .i64 a68 fun n70 =>
          headK r69 fun a71 r72 =>
          asI .i64 a71 fun n73 =>
          seqJ
          (bif !(n67 == 0) then
            (some (.normal, [.s (.bool (decide (n70 < n64)))], m48))
            else
            (some (.normal, [.s (.bool true)], m48)))
          (fun vs74 m75 =>
            headK vs74 fun a76 r77 =>
            asB a76 fun b78 =>
            bif b78 then
            (some (.normal, [.s (.int .i64 n67), .s (.int .i64 n70)], m75))
            else
            (some (.normal, [.s (.int .i64 n61), .s (.int .i64 n64)], m75)))
          (fun vs79 m80 =>
            headK vs79 fun a84 r85 =>
            asI .i64 a84 fun n86 =>
            headK r85 fun a87 r88 =>
            asI .i64 a87 fun n89 =>
            some (.ret, [.s (.int .i64 n86), .s (.int .i64 n89)], m80))
          (fun d83 vs81 m82 =>
            none)) else (none)))
    (fun vs90 m91 =>
      headK vs90 fun a92 r93 =>
      asI .i64 a92 fun n94 =>
      headK r93 fun a95 r96 =>
      asI .i64 a95 fun n97 =>
      some (.normal, [.s (.int .i64 n94), .s (.int .i64 n97), .s (.int .i64 (IntKind.wrap .i64 (s20 + 1)))], m91))
    (fun vs98 m99 =>
      headK vs98 fun a103 r104 =>
      asI .i64 a103 fun n105 =>
      headK r104 fun a106 r107 =>
      asI .i64 a106 fun n108 =>
      some (.ret, [.s (.int .i64 n105), .s (.int .i64 n108)], m99))
    (fun d102 vs100 m101 =>
      none))
  else
  (some (.exit 2, [.s (.int .i64 s2), .s (.int .i64 s3)], μ)) := by kernel_rfl
theorem rice_Best_L2_eq (os vs : List AV) (μ : AMem) : rice_Best_L2 os vs μ = (rice_Best_L2_B os vs μ).bind fun r => match r.1 with | .normal => rice_Best_L2 os r.2.1 r.2.2 | _ => some r := loopA_eq _ _ _
theorem rice_Best_L1_B_eq (s0 : SV) (s10 : SV) (s11 : Int) (s2 : Int) (s3 : Int) (s12 : Int) (μ : AMem) : rice_Best_L1_B [.s s0, .s s10, .s (.int .i64 s11)] [.s (.int .i64 s2), .s (.int .i64 s3), .s (.int .i64 s12)] μ =
  bif decide (s12 < s11) then
  (indS 1 (.s s10) s12 fun p39 =>
    loadAt μ p39 fun v40 =>
    asI .i64 v40 fun n41 =>
    (rice_may [.s (.int .i64 n41), .s (.int .i64 0)] μ).bind fun r42 =>
    asB r42.1 fun b43 =>
    bif (!b43) then
    (some (.ret, [.s (.int .i64 0), .s (.int .i64 0)], r42.2))
    else
    (some (.normal, [.s (.int .i64 s2), .s (.int .i64 s3), .s (.int .i64 (IntKind.wrap .i64 (s12 + 1)))], r42.2)))
  else
  (some (.exit 0, [.s s0, .s (.int .i64 s2), .s (.int .i64 s3)], μ)) := by rw [← G58_71]; kernel_rfl
theorem rice_Best_L1_eq (os vs : List AV) (μ : AMem) : rice_Best_L1 os vs μ = (rice_Best_L1_B os vs μ).bind fun r => match r.1 with | .normal => rice_Best_L1 os r.2.1 r.2.2 | _ => some r := loopA_eq _ _ _
theorem rice_Best_eq (p0 : SV) (μ : AMem) : rice_Best [.s p0] μ =
  (lenS (.s p0)).bind fun l1 =>
  seqJ (rice_Best_L1 [.s p0, .s p0, .s (.int .i64 ((l1 : Nat) : Int))] [.s (.int .i64 0), .s (.int .i64 0), .s (.int .i64 0)] μ)
  (fun _ _ => none)
  (fun vs2 m3 =>
    headK vs2 fun a7 r8 =>
    asI .i64 a7 fun n9 =>
    headK r8 fun a10 r11 =>
    asI .i64 a10 fun n12 =>
    some (.tuple [.s (.int .i64 n9), .s (.int .i64 n12)], m3))
  (fun d6 vs4 m5 =>
    bif Nat.beq 0 d6 then (headK vs4 fun a13 r14 =>
      asS a13 fun x15 =>
      headK r14 fun a16 r17 =>
      asI .i64 a16 fun n18 =>
      headK r17 fun a19 r20 =>
      asI .i64 a19 fun n21 =>
      seqJ (rice_Best_L2 [.s x15] [.s (.int .i64 n18), .s (.int .i64 n21), .s (.int .i64 0)] m5)
      (fun _ _ => none)
      (fun vs22 m23 =>
        headK vs22 fun a27 r28 =>
        asI .i64 a27 fun n29 =>
        headK r28 fun a30 r31 =>
        asI .i64 a30 fun n32 =>
        some (.tuple [.s (.int .i64 n29), .s (.int .i64 n32)], m23))
      (fun d26 vs24 m25 =>
        bif Nat.beq 2 d26 then (headK vs24 fun a33 r34 =>
          asI .i64 a33 fun n35 =>
          headK r34 fun a36 r37 =>
          asI .i64 a36 fun n38 =>
          some (.tuple [.s (.int .i64 n35), .s (.int .i64 n38)], m25)) else (none))) else (none)) := by kernel_rfl

/-! ### (*overdub/bits.Writer).Ones -/
noncomputable def G73 : FuncId → FunA := fun g => bif Nat.beq g 54 then bits_Writer_put else fun _ _ => none
theorem G73_54 : G73 54 = bits_Writer_put := by kernel_rfl
def A73 : Ann := .two (.leaf) (.two (.join [(10, .b)] [0, 1] [] (.leaf) (.two (.two (.leaf) (.leaf)) (.leaf))) (.two (.two (.leaf) (.join [(0, .s)] [] [] (.loop [(12, .i .i64)] [0, 11] [0] (.two (.leaf) (.two (.two (.leaf) (.leaf)) (.two (.join [(0, .s), (11, .i .i64), (12, .i .i64)] [] [] (.leaf) .leaf) (.leaf))))) .leaf)) (.two (.leaf) (.two (.leaf) (.leaf)))))
def R73 : Slots := [(4, .b)]
noncomputable def bits_Writer_Ones : FunA := denF Try.prog G73 Try.f73 A73 R73
noncomputable def bits_Writer_Ones_L1_B (os vs : List AV) (μ : AMem) : Option Res := joinK [(12, .i .i64)] vs (envO [0, 11] os) fun e => den Try.prog G73 Try.f73.ntmps (cL (cL (cR (cL (cR (cR (bodyOf Try.f73))))))) (aL (aL (aR (aL (aR (aR A73)))))) { ret := R73, exits := [(0, [(0, .s)])] } Res e μ fun ex e μ => some (ex, valsOf (Lv.at { ret := R73, exits := [(0, [(0, .s)])] } [(12, .i .i64)] ex) e, μ)
noncomputable def bits_Writer_Ones_L1 (os vs : List AV) (μ : AMem) : Option Res := loopA (bits_Writer_Ones_L1_B os) vs μ
theorem bits_Writer_Ones_L1_B_eq (s0 t0 u0 : Nat) (s11 : Int) (s12 : Int) (μ : AMem) : bits_Writer_Ones_L1_B [.s (.ptr s0 t0 u0), .s (.int .i64 s11)] [.s (.int .i64 s12)] μ =
  bif decide (s12 < s11) then
  ((bits_Writer_put [.s (.ptr s0 t0 u0), .s (.bool true)] μ).bind fun r26 =>
    some (.normal, [.s (.int .i64 (IntKind.wrap .i64 (s12 + 1)))], r26.2))
  else
  (some (.exit 0, [.s (.ptr s0 t0 u0)], μ)) := by rw [← G73_54]; kernel_rfl
theorem bits_Writer_Ones_L1_eq (os vs : List AV) (μ : AMem) : bits_Writer_Ones_L1 os vs μ = (bits_Writer_Ones_L1_B os vs μ).bind fun r => match r.1 with | .normal => bits_Writer_Ones_L1 os r.2.1 r.2.2 | _ => some r := loopA_eq _ _ _
theorem bits_Writer_Ones_eq (p0 q0 o0 : Nat) (p1 : Int) (μ : AMem) : bits_Writer_Ones [.s (.ptr p0 q0 o0), .s (.int .i64 p1)] μ =
  seqJ
  (bif !(decide (p1 < 0)) then
    (some (.normal, [.s (.bool (decide (p1 > 1024)))], μ))
    else
    (some (.normal, [.s (.bool true)], μ)))
  (fun vs1 m2 =>
    headK vs1 fun a3 r4 =>
    asB a3 fun b5 =>
    bif b5 then
    (some (.s (.bool false), m2))
    else
    (seqJ (bits_Writer_Ones_L1 [.s (.ptr p0 q0 o0), .s (.int .i64 p1)] [.s (.int .i64 0)] m2)
      (fun _ _ => none)
      (fun vs6 m7 =>
        headK vs6 fun a11 r12 =>
        asB a11 fun b13 =>
        some (.s (.bool b13), m7))
      (fun d10 vs8 m9 =>
        bif Nat.beq 0 d10 then (headK vs8 fun a14 r15 =>
          asS a14 fun x16 =>
          (bits_Writer_put [.s x16, .s (.bool false)] m9).bind fun r17 =>
          some (.s (.bool true), r17.2)) else (none))))
  (fun vs18 m19 =>
    headK vs18 fun a23 r24 =>
    asB a23 fun b25 =>
    some (.s (.bool b25), m19))
  (fun d22 vs20 m21 =>
    none) := by rw [← G73_54]; kernel_rfl

/-! ### overdub/rice.Put -/
noncomputable def G59 : FuncId → FunA := fun g => bif Nat.beq g 71 then rice_may else bif Nat.beq g 73 then bits_Writer_Ones else bif Nat.beq g 41 then bits_Writer_Put else fun _ _ => none
theorem G59_71 : G59 71 = rice_may := by kernel_rfl
theorem G59_73 : G59 73 = bits_Writer_Ones := by kernel_rfl
theorem G59_41 : G59 41 = bits_Writer_Put := by kernel_rfl
def A59 : Ann := .two (.leaf) (.two (.two (.leaf) (.two (.two (.leaf) (.leaf)) (.leaf))) (.two (.leaf) (.two (.two (.leaf) (.two (.two (.leaf) (.two (.leaf) (.two (.leaf) (.leaf)))) (.leaf))) (.two (.leaf) (.two (.leaf) (.two (.leaf) (.leaf)))))))
def R59 : Slots := [(6, .b)]
noncomputable def rice_Put : FunA := denF Try.prog G59 Try.f59 A59 R59
theorem rice_Put_eq (p0 q0 o0 : Nat) (p1 : Int) (p2 : Int) (μ : AMem) : rice_Put [.s (.ptr p0 q0 o0), .s (.int .i64 p1), .s (.int .i64 p2)] μ =
  (rice_may [.s (.int .i64 p1), .s (.int .i64 p2)] μ).bind fun r1 =>
  asB r1.1 fun b2 =>
  bif (!b2) then
  (some (.s (.bool false), r1.2))
  else
  (if p2 < 0 then none else
    (bif decide ((Int.fdiv p1 (2 ^ (min (Int.toNat p2) (IntKind.bits .i64)))) < 24) then
      ((bits_Writer_Ones [.s (.ptr p0 q0 o0), .s (.int .i64 (Int.fdiv p1 (2 ^ (min (Int.toNat p2) (IntKind.bits .i64)))))] r1.2).bind fun r3 =>
        asB r3.1 fun b4 =>
        (bits_Writer_Put [.s (.ptr p0 q0 o0), .s (.int .i64 p1), .s (.int .i64 p2)] r3.2).bind fun r5 =>
        asB r5.1 fun b6 =>
        some (.s (.bool true), r5.2))
      else
      ((bits_Writer_Put [.s (.ptr p0 q0 o0), .s (.int .i64 16777215), .s (.int .i64 24)] r1.2).bind fun r7 =>
        asB r7.1 fun b8 =>
        (bits_Writer_Put [.s (.ptr p0 q0 o0), .s (.int .i64 p1), .s (.int .i64 32)] r7.2).bind fun r9 =>
        asB r9.1 fun b10 =>
        some (.s (.bool true), r9.2)))) := by rw [← G59_71, ← G59_73, ← G59_41]; kernel_rfl

/-! ### overdub/frame.residuals -/
noncomputable def G44 : FuncId → FunA := fun g => bif Nat.beq g 57 then rice_Zig else bif Nat.beq g 58 then rice_Best else bif Nat.beq g 41 then bits_Writer_Put else bif Nat.beq g 59 then rice_Put else fun _ _ => none
theorem G44_57 : G44 57 = rice_Zig := by kernel_rfl
theorem G44_58 : G44 58 = rice_Best := by kernel_rfl
theorem G44_41 : G44 41 = bits_Writer_Put := by kernel_rfl
theorem G44_59 : G44 59 = rice_Put := by kernel_rfl
def A44 : Ann := .two (.leaf) (.two (.leaf) (.two (.two (.leaf) (.join [(0, .s), (5, .s)] [] [] (.loop [(5, .s), (14, .i .i64)] [0, 12, 13] [0] (.two (.leaf) (.two (.two (.leaf) (.leaf)) (.two (.join [(0, .s), (5, .s), (12, .s), (13, .i .i64), (14, .i .i64)] [] [] (.two (.leaf) (.leaf)) .leaf) (.leaf))))) .leaf)) (.two (.leaf) (.two (.leaf) (.two (.two (.leaf) (.join [] [] [] (.loop [(34, .i .i64)] [0, 8, 32, 33] [2] (.two (.leaf) (.two (.two (.leaf) (.leaf)) (.two (.join [(0, .s), (8, .i .i64), (32, .s), (33, .i .i64), (34, .i .i64)] [] [] (.two (.leaf) (.two (.leaf) (.two (.two (.leaf) (.leaf)) (.leaf)))) .leaf) (.leaf))))) .leaf)) (.two (.leaf) (.leaf)))))))
def R44 : Slots := [(4, .b)]
noncomputable def frame_residuals : FunA := denF Try.prog G44 Try.f44 A44 R44
noncomputable def frame_residuals_L2_B (os vs : List AV) (μ : AMem) : Option Res := joinK [(34, .i .i64)] vs (envO [0, 8, 32, 33] os) fun e => den Try.prog G44 Try.f44.ntmps (cL (cL (cR (cL (cR (cR (cR (cR (cR (bodyOf Try.f44)))))))))) (aL (aL (aR (aL (aR (aR (aR (aR (aR A44))))))))) { ret := R44, exits := [(2, [])] } Res e μ fun ex e μ => some (ex, valsOf (Lv.at { ret := R44, exits := [(2, [])] } [(34, .i .i64)] ex) e, μ)
noncomputable def frame_residuals_L2 (os vs : List AV) (μ : AMem) : Option Res := loopA (frame_residuals_L2_B os) vs μ
noncomputable def frame_residuals_L1_B (os vs : List AV) (μ : AMem) : Option Res := joinK [(5, .s), (14, .i .i64)] vs (envO [0, 12, 13] os) fun e => den Try.prog G44 Try.f44.ntmps (cL (cL (cR (cL (cR (cR (bodyOf Try.f44))))))) (aL (aL (aR (aL (aR (aR A44)))))) { ret := R44, exits := [(0, [(0, .s), (5, .s)])] } Res e μ fun ex e μ => some (ex, valsOf (Lv.at { ret := R44, exits := [(0, [(0, .s), (5, .s)])] } [(5, .s), (14, .i .i64)] ex) e, μ)
noncomputable def frame_residuals_L1 (os vs : List AV) (μ : AMem) : Option Res := loopA (frame_residuals_L1_B os) vs μ
theorem frame_residuals_L2_B_eq (s0 : SV) (s8 : Int) (s32 : SV) (s33 : Int) (s34 : Int) (μ : AMem) : frame_residuals_L2_B [.s s0, .s (.int .i64 s8), .s s32, .s (.int .i64 s33)] [.s (.int .i64 s34)] μ =
  bif decide (s34 < s33) then
  (indS 1 (.s s32) s34 fun p40 =>
    loadAt μ p40 fun v41 =>
    asI .i64 v41 fun n42 =>
    (rice_Put [.s s0, .s (.int .i64 n42), .s (.int .i64 s8)] μ).bind fun r43 =>
    asB r43.1 fun b44 =>
    bif (!b44) then
    (some (.ret, [.s (.bool false)], r43.2))
    else
    (some (.normal, [.s (.int .i64 (IntKind.wrap .i64 (s34 + 1)))], r43.2)))
  else
  (some (.exit 2, [], μ)) := by rw [← G44_59]; kernel_rfl
theorem frame_residuals_L2_eq (os vs : List AV) (μ : AMem) : frame_residuals_L2 os vs μ = (frame_residuals_L2_B os vs μ).bind fun r => match r.1 with | .normal => frame_residuals_L2 os r.2.1 r.2.2 | _ => some r := loopA_eq _ _ _
theorem frame_residuals_L1_B_eq (s0 t0 u0 : Nat) (s12 : SV) (s13 : Int) (s5 : SV) (s14 : Int) (μ : AMem) : frame_residuals_L1_B [.s (.ptr s0 t0 u0), .s s12, .s (.int .i64 s13)] [.s s5, .s (.int .i64 s14)] μ =
  bif decide (s14 < s13) then
  (indS 1 (.s s12) s14 fun p32 =>
    loadAt μ p32 fun v33 =>
    asI .i64 v33 fun n34 =>
    (rice_Zig [.s (.int .i64 n34)] (μ.bump 6)).bind fun r35 =>
    asI .i64 r35.1 fun n36 =>
    appendA 3 1 8 (μ.next + 4) (r35.2.set (μ.next + 3) (rowObj [.int .i64 n36] 1 3 (some 1))) (.s s5) (.s (.slice (μ.next + 3) 0 0 1)) fun x37 m38 =>
    asS x37 fun x39 =>
    some (.normal, [.s x39, .s (.int .i64 (IntKind.wrap .i64 (s14 + 1)))], m38))
  else
  (some (.exit 0, [.s (.ptr s0 t0 u0), .s s5], μ)) := by rw [← G44_57]; kernel_rfl
theorem frame_residuals_L1_eq (os vs : List AV) (μ : AMem) : frame_residuals_L1 os vs μ = (frame_residuals_L1_B os vs μ).bind fun r => match r.1 with | .normal => frame_residuals_L1 os r.2.1 r.2.2 | _ => some r := loopA_eq _ _ _
theorem frame_residuals_eq (p0 q0 o0 : Nat) (p1 : SV) (μ : AMem) : frame_residuals [.s (.ptr p0 q0 o0), .s p1] μ =
  (lenS (.s p1)).bind fun l1 =>
  seqJ (frame_residuals_L1 [.s (.ptr p0 q0 o0), .s p1, .s (.int .i64 ((l1 : Nat) : Int))] [.s .nilSlice, .s (.int .i64 0)] μ)
  (fun _ _ => none)
  (fun vs2 m3 =>
    headK vs2 fun a7 r8 =>
    asB a7 fun b9 =>
    some (.s (.bool b9), m3))
  (fun d6 vs4 m5 =>
    bif Nat.beq 0 d6 then (headK vs4 fun a10 r11 =>
      asS a10 fun x12 =>
      headK r11 fun a13 r14 =>
      asS a13 fun x15 =>
      (rice_Best [.s x15] m5).bind fun r16 =>
      extrK 0 r16.1 fun t17 =>
      asI .i64 t17 fun n18 =>
      extrK 1 r16.1 fun t19 =>
      asI .i64 t19 fun n20 =>
      (bits_Writer_Put [.s x12, .s (.int .i64 n18), .s (.int .i64 5)] r16.2).bind fun r21 =>
      asB r21.1 fun b22 =>
      (lenS (.s x15)).bind fun l23 =>
      seqJ (frame_residuals_L2 [.s x12, .s (.int .i64 n18), .s x15, .s (.int .i64 ((l23 : Nat) : Int))] [.s (.int .i64 0)] r21.2)
      (fun _ _ => none)
      (fun vs24 m25 =>
        headK vs24 fun a29 r30 =>
        asB a29 fun b31 =>
        some (.s (.bool b31), m25))
      (fun d28 vs26 m27 =>
        bif Nat.beq 2 d28 then (some (.s (.bool true), m27)) else (none))) else (none)) := by rw [← G44_58, ← G44_41]; kernel_rfl

/-! ### overdub/levin.Auto -/
noncomputable def G74 : FuncId → FunA := fun g => bif Nat.beq g 28 then fixed_Check else fun _ _ => none
theorem G74_28 : G74 28 = fixed_Check := by kernel_rfl
def A74 : Ann := .two (.leaf) (.two (.join [(16, .b)] [0, 1] [] (.leaf) (.two (.two (.leaf) (.leaf)) (.leaf))) (.two (.two (.leaf) (.two (.leaf) (.two (.two (.leaf) (.leaf)) (.leaf)))) (.two (.leaf) (.two (.two (.leaf) (.join [(7, .s)] [] [] (.loop [(7, .s), (24, .i .i64)] [0, 23] [0] (.two (.leaf) (.two (.two (.leaf) (.leaf)) (.two (.join [(0, .s), (7, .s), (23, .i .i64), (24, .i .i64)] [] [] (.two (.leaf) (.two (.leaf) (.two (.two (.leaf) (.join [(0, .s), (7, .s), (9, .i .i64), (23, .i .i64), (24, .i .i64)] [] [] (.loop [(9, .i .i64), (10, .i .i64)] [0, 7, 8, 23, 24] [2] (.two (.two (.leaf) (.two (.leaf) (.leaf))) (.two (.join [(0, .s), (7, .s), (8, .i .i64), (9, .i .i64), (10, .i .i64), (23, .i .i64), (24, .i .i64)] [] [] (.ord [0, 1, 2, 3, 4, 5, 6, 7, 8, 9, 10, 11, 12, 13]) .leaf) (.leaf)))) .leaf)) (.leaf)))) .leaf) (.leaf))))) .leaf)) (.two (.leaf) (.leaf))))))
def R74 : Slots := [(4, .s), (5, .i .i64)]
noncomputable def levin_Auto : FunA := denF Try.prog G74 Try.f74 A74 R74
noncomputable def levin_Auto_L2_B (os vs : List AV) (μ : AMem) : Option Res := joinK [(9, .i .i64), (10, .i .i64)] vs (envO [0, 7, 8, 23, 24] os) fun e => den Try.prog G74 Try.f74.ntmps (cL (cL (cR (cL (cR (cR (cL (cL (cR (cR (cL (cL (cR (cL (cR (cR (cR (cR (bodyOf Try.f74))))))))))))))))))) (aL (aL (aR (aL (aR (aR (aL (aL (aR (aR (aL (aL (aR (aL (aR (aR (aR (aR A74)))))))))))))))))) { ret := R74, exits := [(2, [(0, .s), (7, .s), (9, .i .i64), (23, .i .i64), (24, .i .i64)]), (1, [(0, .s), (7, .s), (23, .i .i64), (24, .i .i64)]), (0, [(7, .s)])] } Res e μ fun ex e μ => some (ex, valsOf (Lv.at { ret := R74, exits := [(2, [(0, .s), (7, .s), (9, .i .i64), (23, .i .i64), (24, .i .i64)]), (1, [(0, .s), (7, .s), (23, .i .i64), (24, .i .i64)]), (0, [(7, .s)])] } [(9, .i .i64), (10, .i .i64)] ex) e, μ)
noncomputable def levin_Auto_L2 (os vs : List AV) (μ : AMem) : Option Res := loopA (levin_Auto_L2_B os) vs μ
noncomputable def levin_Auto_L1_B (os vs : List AV) (μ : AMem) : Option Res := joinK [(7, .s), (24, .i .i64)] vs (envO [0, 23] os) fun e => den Try.prog G74 Try.f74.ntmps (cL (cL (cR (cL (cR (cR (cR (cR (bodyOf Try.f74))))))))) (aL (aL (aR (aL (aR (aR (aR (aR A74)))))))) { ret := R74, exits := [(0, [(7, .s)])] } Res e μ fun ex e μ => some (ex, valsOf (Lv.at { ret := R74, exits := [(0, [(7, .s)])] } [(7, .s), (24, .i .i64)] ex) e, μ)
noncomputable def levin_Auto_L1 (os vs : List AV) (μ : AMem) : Option Res := loopA (levin_Auto_L1_B os) vs μ
theorem levin_Auto_L2_B_eq (s0 : SV) (s7 : SV) (s8 : Int) (s23 : Int) (s24 : Int) (s9 : Int) (s10 : Int) (μ : AMem) : levin_Auto_L2_B [.s s0, .s s7, .s (.int .i64 s8), .s (.int .i64 s23), .s (.int .i64 s24)] [.s (.int .i64 s9), .s (.int .i64 s10)] μ =
  (lenS (.s s0)).bind fun l62 =>
  bif decide (s10 < ((l62 : Nat) : Int)) then
  (indS 1 (.s s0) s10 fun p63 =>
    loadAt μ p63 fun v64 =>
    asI .i64 v64 fun n65 =>
    indS 1 (.s s0) (IntKind.wrap .i64 (s10 - s8)) fun p66 =>
    loadAt μ p66 fun v67 =>
    asI .i64 v67 fun n68 =>
    some (.normal, [.s (.int .i64 (IntKind.wrap .i64 (s9 + (IntKind.wrap .i64 (n65 * n68))))), .s (.int .i64 (IntKind.wrap .i64 (s10 + 1)))], μ))
  else
  (some (.exit 2, [.s s0, .s s7, .s (.int .i64 s9), .s (.int .i64 s23), .s (.int .i64 s24)], μ)) := by kernel_rfl
theorem levin_Auto_L2_eq (os vs : List AV) (μ : AMem) : levin_Auto_L2 os vs μ = (levin_Auto_L2_B os vs μ).bind fun r => match r.1 with | .normal => levin_Auto_L2 os r.2.1 r.2.2 | _ => some r := loopA_eq _ _ _
theorem levin_Auto_L1_B_eq (s0 : SV) (s23 : Int) (s7 : SV) (s24 : Int) (μ : AMem) : levin_Auto_L1_B [.s s0, .s (.int .i64 s23)] [.s s7, .s (.int .i64 s24)] μ =
  bif decide (s24 < s23) then
  (seqJ (levin_Auto_L2 [.s s0, .s s7, .s (.int .i64 s24), .s (.int .i64 s23), .s (.int .i64 s24)] [.s (.int .i64 0), .s (.int .i64 s24)] μ)
    (fun _ _ => none)
    (fun vs33 m34 =>
      headK vs33 fun a38 r39 =>
      asS a38 fun x40 =>
      headK r39 fun a41 r42 =>
      asI .i64 a41 fun n43 =>
      some (.ret, [.s x40, .s (.int .i64 n43)], m34))
    (fun d37 vs35 m36 =>
      bif Nat.beq 2 d37 then (headK vs35 fun a44 r45 =>
        asS a44 fun x46 =>
        headK r45 fun a47 r48 =>
        asS a47 fun x49 =>
        headK r48 fun a50 r51 =>
        asI .i64 a50 fun n52 =>
        headK r51 fun a53 r54 =>
        asI .i64 a53 fun n55 =>
        headK r54 fun a56 r57 =>
        asI .i64 a56 fun n58 =>
        appendA 3 1 8 (m36.next + 3) ((m36.bump 5).set (m36.next + 2) (rowObj [.int .i64 n52] 1 3 (some 1))) (.s x49) (.s (.slice (m36.next + 2) 0 0 1)) fun x59 m60 =>
        asS x59 fun x61 =>
        some (.normal, [.s x61, .s (.int .i64 (IntKind.wrap .i64 (n58 + 1)))], m60)) else (none)))
  else
  (some (.exit 0, [.s s7], μ)) := by kernel_rfl
theorem levin_Auto_L1_eq (os vs : List AV) (μ : AMem) : levin_Auto_L1 os vs μ = (levin_Auto_L1_B os vs μ).bind fun r => match r.1 with | .normal => levin_Auto_L1 os r.2.1 r.2.2 | _ => some r := loopA_eq _ _ _
theorem levin_Auto_eq (p0 : SV) (p1 : Int) (μ : AMem) : levin_Auto [.s p0, .s (.int .i64 p1)] μ =
  seqJ
  (bif !(decide (p1 < 0)) then
    (some (.normal, [.s (.bool (decide (p1 > 12)))], μ))
    else
    (some (.normal, [.s (.bool true)], μ)))
  (fun vs1 m2 =>
    headK vs1 fun a3 r4 =>
    asB a3 fun b5 =>
    bif b5 then
    (some (.tuple [.s .nilSlice, .s (.int .i64 1)], m2))
    else
    ((fixed_Check [.s p0] m2).bind fun r6 =>
      asI .i64 r6.1 fun n7 =>
      bif (n7 != 0) then
      (some (.tuple [.s .nilSlice, .s (.int .i64 n7)], r6.2))
      else
      (seqJ (levin_Auto_L1 [.s p0, .s (.int .i64 (IntKind.wrap .i64 (p1 + 1)))] [.s .nilSlice, .s (.int .i64 0)] r6.2)
        (fun _ _ => none)
        (fun vs8 m9 =>
          headK vs8 fun a13 r14 =>
          asS a13 fun x15 =>
          headK r14 fun a16 r17 =>
          asI .i64 a16 fun n18 =>
          some (.tuple [.s x15, .s (.int .i64 n18)], m9))
        (fun d12 vs10 m11 =>
          bif Nat.beq 0 d12 then (headK vs10 fun a19 r20 =>
            asS a19 fun x21 =>
            some (.tuple [.s x21, .s (.int .i64 0)], m11)) else (none)))))
  (fun vs22 m23 =>
    headK vs22 fun a27 r28 =>
    asS a27 fun x29 =>
    headK r28 fun a30 r31 =>
    asI .i64 a30 fun n32 =>
    some (.tuple [.s x29, .s (.int .i64 n32)], m23))
  (fun d26 vs24 m25 =>
    none) := by rw [← G74_28]; kernel_rfl

/-! ### overdub/levin.Scaled -/
noncomputable def G75 : FuncId → FunA := fun _ _ _ => none
def A75 : Ann := .two (.leaf) (.two (.join [(18, .b)] [0] [] (.leaf) (.two (.two (.leaf) (.leaf)) (.leaf))) (.two (.two (.leaf) (.join [(0, .s)] [] [] (.loop [(21, .i .i64)] [0, 19, 20] [0] (.two (.leaf) (.two (.two (.leaf) (.leaf)) (.two (.join [(0, .s), (19, .s), (20, .i .i64), (21, .i .i64)] [] [] (.two (.leaf) (.join [(30, .b)] [0, 19, 20, 21] [] (.leaf) (.two (.two (.leaf) (.leaf)) (.leaf)))) .leaf) (.leaf))))) .leaf)) (.two (.leaf) (.two (.join [(0, .s), (6, .i .i64)] [] [] (.loop [(6, .i .i64)] [0] [2] (.two (.two (.leaf) (.two (.leaf) (.leaf))) (.join [(0, .s), (6, .i .i64)] [] [] (.leaf) .leaf))) .leaf) (.two (.leaf) (.two (.two (.leaf) (.join [(6, .i .i64), (7, .s)] [] [] (.loop [(7, .s), (42, .i .i64)] [6, 40, 41] [4] (.two (.leaf) (.two (.two (.leaf) (.leaf)) (.two (.join [(6, .i .i64), (7, .s), (40, .s), (41, .i .i64), (42, .i .i64)] [] [] (.two (.leaf) (.leaf)) .leaf) (.leaf))))) .leaf)) (.two (.leaf) (.leaf))))))))
def R75 : Slots := [(2, .s), (3, .i .i64)]
noncomputable def levin_Scaled : FunA := denF Try.prog G75 Try.f75 A75 R75
noncomputable def levin_Scaled_L3_B (os vs : List AV) (μ : AMem) : Option Res := joinK [(7, .s), (42, .i .i64)] vs (envO [6, 40, 41] os) fun e => den Try.prog G75 Try.f75.ntmps (cL (cL (cR (cL (cR (cR (cR (cR (cR (cR (bodyOf Try.f75))))))))))) (aL (aL (aR (aL (aR (aR (aR (aR (aR (aR A75)))))))))) { ret := R75, exits := [(4, [(6, .i .i64), (7, .s)])] } Res e μ fun ex e μ => some (ex, valsOf (Lv.at { ret := R75, exits := [(4, [(6, .i .i64), (7, .s)])] } [(7, .s), (42, .i .i64)] ex) e, μ)
noncomputable def levin_Scaled_L3 (os vs : List AV) (μ : AMem) : Option Res := loopA (levin_Scaled_L3_B os) vs μ
noncomputable def levin_Scaled_L2_B (os vs : List AV) (μ : AMem) : Option Res := joinK [(6, .i .i64)] vs (envO [0] os) fun e => den Try.prog G75 Try.f75.ntmps (cL (cL (cL (cR (cR (cR (cR (bodyOf Try.f75)))))))) (aL (aL (aL (aR (aR (aR (aR A75))))))) { ret := R75, exits := [(2, [(0, .s), (6, .i .i64)])] } Res e μ fun ex e μ => some (ex, valsOf (Lv.at { ret := R75, exits := [(2, [(0, .s), (6, .i .i64)])] } [(6, .i .i64)] ex) e, μ)
noncomputable def levin_Scaled_L2 (os vs : List AV) (μ : AMem) : Option Res := loopA (levin_Scaled_L2_B os) vs μ
noncomputable def levin_Scaled_L1_B (os vs : List AV) (μ : AMem) : Option Res := joinK [(21, .i .i64)] vs (envO [0, 19, 20] os) fun e => den Try.prog G75 Try.f75.ntmps (cL (cL (cR (cL (cR (cR (bodyOf Try.f75))))))) (aL (aL (aR (aL (aR (aR A75)))))) { ret := R75, exits := [(0, [(0, .s)])] } Res e μ fun ex e μ => some (ex, valsOf (Lv.at { ret := R75, exits := [(0, [(0, .s)])] } [(21, .i .i64)] ex) e, μ)
noncomputable def levin_Scaled_L1 (os vs : List AV) (μ : AMem) : Option Res := loopA (levin_Scaled_L1_B os) vs μ
theorem levin_Scaled_L3_B_eq (s6 : Int) (s40 : SV) (s41 : Int) (s7 : SV) (s42 : Int) (μ : AMem) : levin_Scaled_L3_B [.s (.int .i64 s6), .s s40, .s (.int .i64 s41)] [.s s7, .s (.int .i64 s42)] μ =
  bif decide (s42 < s41) then
  (indS 1 (.s s40) s42 fun p93 =>
    loadAt μ p93 fun v94 =>
    asI .i64 v94 fun n95 =>
    if s6 < 0 then none else
    (appendA 3 1 8 (μ.next + 5) ((μ.bump 7).set (μ.next + 4) (rowObj [.int .i64 (Int.fdiv n95 (2 ^ (min (Int.toNat s6) (IntKind.bits .i64))))] 1 3 (some 1))) (.s s7) (.s (.slice (μ.next + 4) 0 0 1)) fun x96 m97 =>
      asS x96 fun x98 =>
      some (.normal, [.s x98, .s (.int .i64 (IntKind.wrap .i64 (s42 + 1)))], m97)))
  else
  (some (.exit 4, [.s (.int .i64 s6), .s s7], μ)) := by kernel_rfl
theorem levin_Scaled_L3_eq (os vs : List AV) (μ : AMem) : levin_Scaled_L3 os vs μ = (levin_Scaled_L3_B os vs μ).bind fun r => match r.1 with | .normal => levin_Scaled_L3 os r.2.1 r.2.2 | _ => some r := loopA_eq _ _ _
theorem levin_Scaled_L2_B_eq (s0 : SV) (s6 : Int) (μ : AMem) : levin_Scaled_L2_B [.s s0] [.s (.int .i64 s6)] μ =
  indS 1 (.s s0) 0 fun p90 =>
  loadAt μ p90 fun v91 =>
  asI .i64 v91 fun n92 =>
  if s6 < 0 then none else
  (bif decide ((Int.fdiv n92 (2 ^ (min (Int.toNat s6) (IntKind.bits .i64)))) ≥ 1073741824) then
    (some (.normal, [.s (.int .i64 (IntKind.wrap .i64 (s6 + 1)))], μ))
    else
    (some (.exit 2, [.s s0, .s (.int .i64 s6)], μ))) := by kernel_rfl
theorem levin_Scaled_L2_eq (os vs : List AV) (μ : AMem) : levin_Scaled_L2 os vs μ = (levin_Scaled_L2_B os vs μ).bind fun r => match r.1 with | .normal => levin_Scaled_L2 os r.2.1 r.2.2 | _ => some r := loopA_eq _ _ _
theorem levin_Scaled_L1_B_eq (s0 : SV) (s19 : SV) (s20 : Int) (s21 : Int) (μ : AMem) : levin_Scaled_L1_B [.s s0, .s s19, .s (.int .i64 s20)] [.s (.int .i64 s21)] μ =
  bif decide (s21 < s20) then
  (indS 1 (.s s19) s21 fun p71 =>
    loadAt μ p71 fun v72 =>
    asI .i64 v72 fun n73 =>
    seqJ
    (bif !(decide (n73 < (-1152921504606846976))) then
      (some (.normal, [.s (.bool (decide (n73 > 1152921504606846976)))], μ))
      else
      (some (.normal, [.s (.bool true)], μ)))
    (fun vs74 m75 =>
      headK vs74 fun a76 r77 =>
      asB a76 fun b78 =>
      bif b78 then
      (some (.ret, [.s .nilSlice, .s (.int .i64 0)], m75))
      else
      (some (.normal, [.s (.int .i64 (IntKind.wrap .i64 (s21 + 1)))], m75)))
    (fun vs79 m80 =>
      headK vs79 fun a84 r85 =>
      asS a84 fun x86 =>
      headK r85 fun a87 r88 =>
      asI .i64 a87 fun n89 =>
      some (.ret, [.s x86, .s (.int .i64 n89)], m80))
    (fun d83 vs81 m82 =>
      none))
  else
  (some (.exit 0, [.s s0], μ)) := by kernel_rfl
theorem levin_Scaled_L1_eq (os vs : List AV) (μ : AMem) : levin_Scaled_L1 os vs μ = (levin_Scaled_L1_B os vs μ).bind fun r => match r.1 with | .normal => levin_Scaled_L1 os r.2.1 r.2.2 | _ => some r := loopA_eq _ _ _
theorem levin_Scaled_eq (p0 : SV) (μ : AMem) : levin_Scaled [.s p0] μ =
  seqJ
  ((lenS (.s p0)).bind fun l1 =>
    bif !(((l1 : Nat) : Int) == 0) then
    (indS 1 (.s p0) 0 fun p2 =>
      loadAt μ p2 fun v3 =>
      asI .i64 v3 fun n4 =>
      some (.normal, [.s (.bool (decide (n4 < 0)))], μ))
    else
    (some (.normal, [.s (.bool true)], μ)))
  (fun vs5 m6 =>
    headK vs5 fun a7 r8 =>
    asB a7 fun b9 =>
    bif b9 then
    (some (.tuple [.s .nilSlice, .s (.int .i64 0)], m6))
    else
    ((lenS (.s p0)).bind fun l10 =>
      seqJ (levin_Scaled_L1 [.s p0, .s p0, .s (.int .i64 ((l10 : Nat) : Int))] [.s (.int .i64 0)] m6)
      (fun _ _ => none)
      (fun vs11 m12 =>
        headK vs11 fun a16 r17 =>
        asS a16 fun x18 =>
        headK r17 fun a19 r20 =>
        asI .i64 a19 fun n21 =>
        some (.tuple [.s x18, .s (.int .i64 n21)], m12))
      (fun d15 vs13 m14 =>
        bif Nat.beq 0 d15 then (headK vs13 fun a22 r23 =>
          asS a22 fun x24 =>
          seqJ (levin_Scaled_L2 [.s x24] [.s (.int .i64 0)] m14)
          (fun _ _ => none)
          (fun vs25 m26 =>
            headK vs25 fun a30 r31 =>
            asS a30 fun x32 =>
            headK r31 fun a33 r34 =>
            asI .i64 a33 fun n35 =>
            some (.tuple [.s x32, .s (.int .i64 n35)], m26))
          (fun d29 vs27 m28 =>
            bif Nat.beq 2 d29 then (headK vs27 fun a36 r37 =>
              asS a36 fun x38 =>
              headK r37 fun a39 r40 =>
              asI .i64 a39 fun n41 =>
              (lenS (.s x38)).bind fun l42 =>
              seqJ (levin_Scaled_L3 [.s (.int .i64 n41), .s x38, .s (.int .i64 ((l42 : Nat) : Int))] [.s .nilSlice, .s (.int .i64 0)] m28)
              (fun _ _ => none)
              (fun vs43 m44 =>
                headK vs43 fun a48 r49 =>
                asS a48 fun x50 =>
                headK r49 fun a51 r52 =>
                asI .i64 a51 fun n53 =>
                some (.tuple [.s x50, .s (.int .i64 n53)], m44))
              (fun d47 vs45 m46 =>
                bif Nat.beq 4 d47 then (headK vs45 fun a54 r55 =>
                  asI .i64 a54 fun n56 =>
                  headK r55 fun a57 r58 =>
                  asS a57 fun x59 =>
                  some (.tuple [.s x59, .s (.int .i64 n56)], m46)) else (none))) else (none))) else (none))))
  (fun vs60 m61 =>
    headK vs60 fun a65 r66 =>
    asS a65 fun x67 =>
    headK r66 fun a68 r69 =>
    asI .i64 a68 fun n70 =>
    some (.tuple [.s x67, .s (.int .i64 n70)], m61))
  (fun d64 vs62 m63 =>
    none) := by kernel_rfl

/-! ### overdub/levin.floor -/
noncomputable def G76 : FuncId → FunA := fun _ _ _ => none
def A76 : Ann := .two (.leaf) (.two (.leaf) (.join [(5, .i .i64)] [] [] (.two (.leaf) (.two (.leaf) (.leaf))) (.two (.leaf) (.leaf))))
def R76 : Slots := [(4, .i .i64)]
noncomputable def levin_floor : FunA := denF Try.prog G76 Try.f76 A76 R76
theorem levin_floor_eq (p0 : Int) (p1 : Int) (μ : AMem) : levin_floor [.s (.int .i64 p0), .s (.int .i64 p1)] μ =
  if p1 = 0 then none else
  (seqJ
    (if p1 = 0 then none else
      (bif decide ((Int.tmod p0 p1) < 0) then
        (some (.normal, [.s (.int .i64 (IntKind.wrap .i64 ((IntKind.wrap .i64 (Int.tdiv p0 p1)) - 1)))], μ))
        else
        (some (.normal, [.s (.int .i64 (IntKind.wrap .i64 (Int.tdiv p0 p1)))], μ))))
    (fun vs1 m2 =>
      headK vs1 fun a3 r4 =>
      asI .i64 a3 fun n5 =>
      some (.s (.int .i64 n5), m2))
    (fun vs6 m7 =>
      headK vs6 fun a11 r12 =>
      asI .i64 a11 fun n13 =>
      some (.s (.int .i64 n13), m7))
    (fun d10 vs8 m9 =>
      none)) := by kernel_rfl

/-! ### overdub/levin.Coefficients -/
noncomputable def G60 : FuncId → FunA := fun g => bif Nat.beq g 28 then fixed_Check else bif Nat.beq g 74 then levin_Auto else bif Nat.beq g 75 then levin_Scaled else bif Nat.beq g 76 then levin_floor else fun _ _ => none
theorem G60_28 : G60 28 = fixed_Check := by kernel_rfl
theorem G60_74 : G60 74 = levin_Auto := by kernel_rfl
theorem G60_75 : G60 75 = levin_Scaled := by kernel_rfl
theorem G60_76 : G60 76 = levin_floor := by kernel_rfl
def A60 : Ann := .two (.leaf) (.two (.join [(35, .b)] [0, 1] [] (.leaf) (.two (.two (.leaf) (.leaf)) (.leaf))) (.two (.leaf) (.two (.leaf) (.two (.leaf) (.two (.leaf) (.two (.two (.leaf) (.join [(11, .s)] [] [] (.loop [(10, .i .i64), (12, .i .i64)] [1, 8, 11] [0] (.two (.two (.leaf) (.two (.leaf) (.leaf))) (.two (.join [(1, .i .i64), (8, .s), (10, .i .i64), (11, .s), (12, .i .i64)] [] [] (.two (.two (.leaf) (.two (.two (.leaf) (.leaf)) (.leaf))) (.two (.leaf) (.two (.two (.leaf) (.join [(1, .i .i64), (8, .s), (10, .i .i64), (11, .s), (12, .i .i64), (13, .i .i64)] [] [] (.loop [(13, .i .i64), (14, .i .i64)] [1, 8, 10, 11, 12] [2] (.two (.two (.leaf) (.two (.leaf) (.leaf))) (.two (.join [(1, .i .i64), (8, .s), (10, .i .i64), (11, .s), (12, .i .i64), (13, .i .i64), (14, .i .i64)] [] [] (.ord [0, 1, 2, 3, 4, 5, 6, 7, 8, 9, 10, 11, 12, 13]) .leaf) (.leaf)))) .leaf)) (.two (.leaf) (.two (.leaf) (.two (.two (.leaf) (.join [(1, .i .i64), (8, .s), (10, .i .i64), (11, .s), (12, .i .i64), (13, .i .i64)] [] [] (.loop [(16, .i .i64)] [1, 8, 10, 11, 12, 13, 15] [4] (.two (.two (.leaf) (.two (.leaf) (.leaf))) (.two (.join [(1, .i .i64), (8, .s), (10, .i .i64), (11, .s), (12, .i .i64), (13, .i .i64), (15, .s), (16, .i .i64)] [] [] (.ord [0, 1, 2, 3, 4, 5, 6, 7, 8, 9, 10, 11, 12, 13, 14, 15, 16, 17]) .leaf) (.leaf)))) .leaf)) (.two (.leaf) (.leaf)))))))) .leaf) (.leaf)))) .leaf)) (.two (.two (.leaf) (.join [(11, .s)] [] [] (.loop [(128, .i .i64)] [11, 126, 127] [6] (.two (.leaf) (.two (.two (.leaf) (.leaf)) (.two (.join [(11, .s), (126, .s), (127, .i .i64), (128, .i .i64)] [] [] (.two (.leaf) (.join [(137, .b)] [11, 126, 127, 128] [] (.leaf) (.two (.two (.leaf) (.leaf)) (.leaf)))) .leaf) (.leaf))))) .leaf)) (.two (.leaf) (.leaf)))))))))
def R60 : Slots := [(4, .s), (5, .b)]
noncomputable def levin_Coefficients : FunA := denF Try.prog G60 Try.f60 A60 R60
noncomputable def levin_Coefficients_L4_B (os vs : List AV) (μ : AMem) : Option Res := joinK [(16, .i .i64)] vs (envO [1, 8, 10, 11, 12, 13, 15] os) fun e => den Try.prog G60 Try.f60.ntmps (cL (cL (cR (cL (cR (cR (cR (cR (cR (cL (cL (cR (cL (cL (cR (cL (cR (cR (cR (cR (cR (cR (bodyOf Try.f60))))))))))))))))))))))) (aL (aL (aR (aL (aR (aR (aR (aR (aR (aL (aL (aR (aL (aL (aR (aL (aR (aR (aR (aR (aR (aR A60)))))))))))))))))))))) { ret := R60, exits := [(4, [(1, .i .i64), (8, .s), (10, .i .i64), (11, .s), (12, .i .i64), (13, .i .i64)]), (1, [(1, .i .i64), (8, .s), (10, .i .i64), (11, .s), (12, .i .i64)]), (0, [(11, .s)])] } Res e μ fun ex e μ => some (ex, valsOf (Lv.at { ret := R60, exits := [(4, [(1, .i .i64), (8, .s), (10, .i .i64), (11, .s), (12, .i .i64), (13, .i .i64)]), (1, [(1, .i .i64), (8, .s), (10, .i .i64), (11, .s), (12, .i .i64)]), (0, [(11, .s)])] } [(16, .i .i64)] ex) e, μ)
noncomputable def levin_Coefficients_L4 (os vs : List AV) (μ : AMem) : Option Res := loopA (levin_Coefficients_L4_B os) vs μ
noncomputable def levin_Coefficients_L3_B (os vs : List AV) (μ : AMem) : Option Res := joinK [(13, .i .i64), (14, .i .i64)] vs (envO [1, 8, 10, 11, 12] os) fun e => den Try.prog G60 Try.f60.ntmps (cL (cL (cR (cL (cR (cR (cL (cL (cR (cL (cL (cR (cL (cR (cR (cR (cR (cR (cR (bodyOf Try.f60)))))))))))))))))))) (aL (aL (aR (aL (aR (aR (aL (aL (aR (aL (aL (aR (aL (aR (aR (aR (aR (aR (aR A60))))))))))))))))))) { ret := R60, exits := [(2, [(1, .i .i64), (8, .s), (10, .i .i64), (11, .s), (12, .i .i64), (13, .i .i64)]), (1, [(1, .i .i64), (8, .s), (10, .i .i64), (11, .s), (12, .i .i64)]), (0, [(11, .s)])] } Res e μ fun ex e μ => some (ex, valsOf (Lv.at { ret := R60, exits := [(2, [(1, .i .i64), (8, .s), (10, .i .i64), (11, .s), (12, .i .i64), (13, .i .i64)]), (1, [(1, .i .i64), (8, .s), (10, .i .i64), (11, .s), (12, .i .i64)]), (0, [(11, .s)])] } [(13, .i .i64), (14, .i .i64)] ex) e, μ)
noncomputable def levin_Coefficients_L3 (os vs : List AV) (μ : AMem) : Option Res := loopA (levin_Coefficients_L3_B os) vs μ
noncomputable def levin_Coefficients_L2_B (os vs : List AV) (μ : AMem) : Option Res := joinK [(128, .i .i64)] vs (envO [11, 126, 127] os) fun e => den Try.prog G60 Try.f60.ntmps (cL (cL (cR (cL (cR (cR (cR (cR (cR (cR (cR (bodyOf Try.f60)))))))))))) (aL (aL (aR (aL (aR (aR (aR (aR (aR (aR (aR A60))))))))))) { ret := R60, exits := [(6, [(11, .s)])] } Res e μ fun ex e μ => some (ex, valsOf (Lv.at { ret := R60, exits := [(6, [(11, .s)])] } [(128, .i .i64)] ex) e, μ)
noncomputable def levin_Coefficients_L2 (os vs : List AV) (μ : AMem) : Option Res := loopA (levin_Coefficients_L2_B os) vs μ
noncomputable def levin_Coefficients_L1_B (os vs : List AV) (μ : AMem) : Option Res := joinK [(10, .i .i64), (12, .i .i64)] vs (envO [1, 8, 11] os) fun e => den Try.prog G60 Try.f60.ntmps (cL (cL (cR (cL (cR (cR (cR (cR (cR (cR (bodyOf Try.f60))))))))))) (aL (aL (aR (aL (aR (aR (aR (aR (aR (aR A60)))))))))) { ret := R60, exits := [(0, [(11, .s)])] } Res e μ fun ex e μ => some (ex, valsOf (Lv.at { ret := R60, exits := [(0, [(11, .s)])] } [(10, .i .i64), (12, .i .i64)] ex) e, μ)
noncomputable def levin_Coefficients_L1 (os vs : List AV) (μ : AMem) : Option Res := loopA (levin_Coefficients_L1_B os) vs μ
theorem levin_Coefficients_L4_B_eq (s1 : Int) (s8 : SV) (s10 : Int) (s11 : SV) (s12 : Int) (s13 : Int) (s15 : SV) (s16 : Int) (μ : AMem) : levin_Coefficients_L4_B [.s (.int .i64 s1), .s s8, .s (.int .i64 s10), .s s11, .s (.int .i64 s12), .s (.int .i64 s13), .s s15] [.s (.int .i64 s16)] μ =
  bif decide (s16 < s12) then
  (indS 1 (.s s15) s16 fun p159 =>
    loadAt μ p159 fun v160 =>
    asI .i64 v160 fun n161 =>
    indS 1 (.s s15) (IntKind.wrap .i64 (s12 - s16)) fun p162 =>
    loadAt μ p162 fun v163 =>
    asI .i64 v163 fun n164 =>
    indS 1 (.s s11) s16 fun p165 =>
    storeAt 1 μ p165 (.s (.int .i64 (IntKind.wrap .i64 (n161 - (Int.fdiv (IntKind.wrap .i64 (s13 * n164)) (2 ^ (12 : Nat))))))) fun m166 =>
    some (.normal, [.s (.int .i64 (IntKind.wrap .i64 (s16 + 1)))], m166))
  else
  (some (.exit 4, [.s (.int .i64 s1), .s s8, .s (.int .i64 s10), .s s11, .s (.int .i64 s12), .s (.int .i64 s13)], μ)) := by kernel_rfl
theorem levin_Coefficients_L4_eq (os vs : List AV) (μ : AMem) : levin_Coefficients_L4 os vs μ = (levin_Coefficients_L4_B os vs μ).bind fun r => match r.1 with | .normal => levin_Coefficients_L4 os r.2.1 r.2.2 | _ => some r := loopA_eq _ _ _
theorem levin_Coefficients_L3_B_eq (s1 : Int) (s8 : SV) (s10 : Int) (s11 : SV) (s12 : Int) (s13 : Int) (s14 : Int) (μ : AMem) : levin_Coefficients_L3_B [.s (.int .i64 s1), .s s8, .s (.int .i64 s10), .s s11, .s (.int .i64 s12)] [.s (.int .i64 s13), .s (.int .i64 s14)] μ =
  bif decide (s14 < s12) then
  (indS 1 (.s s11) s14 fun p153 =>
    loadAt μ p153 fun v154 =>
    asI .i64 v154 fun n155 =>
    indS 1 (.s s8) (IntKind.wrap .i64 (s12 - s14)) fun p156 =>
    loadAt μ p156 fun v157 =>
    asI .i64 v157 fun n158 =>
    some (.normal, [.s (.int .i64 (IntKind.wrap .i64 (s13 - (IntKind.wrap .i64 (n155 * n158))))), .s (.int .i64 (IntKind.wrap .i64 (s14 + 1)))], μ))
  else
  (some (.exit 2, [.s (.int .i64 s1), .s s8, .s (.int .i64 s10), .s s11, .s (.int .i64 s12), .s (.int .i64 s13)], μ)) := by kernel_rfl
theorem levin_Coefficients_L3_eq (os vs : List AV) (μ : AMem) : levin_Coefficients_L3 os vs μ = (levin_Coefficients_L3_B os vs μ).bind fun r => match r.1 with | .normal => levin_Coefficients_L3 os r.2.1 r.2.2 | _ => some r := loopA_eq _ _ _
theorem levin_Coefficients_L2_B_eq (s11 : SV) (s126 : SV) (s127 : Int) (s128 : Int) (μ : AMem) : levin_Coefficients_L2_B [.s s11, .s s126, .s (.int .i64 s127)] [.s (.int .i64 s128)] μ =
  bif decide (s128 < s127) then
  (indS 1 (.s s126) s128 fun p134 =>
    loadAt μ p134 fun v135 =>
    asI .i64 v135 fun n136 =>
    seqJ
    (bif !(decide (n136 < (-32768))) then
      (some (.normal, [.s (.bool (decide (n136 > 32767)))], μ))
      else
      (some (.normal, [.s (.bool true)], μ)))
    (fun vs137 m138 =>
      headK vs137 fun a139 r140 =>
      asB a139 fun b141 =>
      bif b141 then
      (some (.ret, [.s .nilSlice, .s (.bool false)], m138))
      else
      (some (.normal, [.s (.int .i64 (IntKind.wrap .i64 (s128 + 1)))], m138)))
    (fun vs142 m143 =>
      headK vs142 fun a147 r148 =>
      asS a147 fun x149 =>
      headK r148 fun a150 r151 =>
      asB a150 fun b152 =>
      some (.ret, [.s x149, .s (.bool b152)], m143))
    (fun d146 vs144 m145 =>
      none))
  else
  (some (.exit 6, [.s s11], μ)) := by kernel_rfl
theorem levin_Coefficients_L2_eq (os vs : List AV) (μ : AMem) : levin_Coefficients_L2 os vs μ = (levin_Coefficients_L2_B os vs μ).bind fun r => match r.1 with | .normal => levin_Coefficients_L2 os r.2.1 r.2.2 | _ => some r := loopA_eq _ _ _
theorem levin_Coefficients_L1_B_eq (s1 : Int) (s8 : SV) (s11 : SV) (s10 : Int) (s12 : Int) (μ : AMem) : levin_Coefficients_L1_B [.s (.int .i64 s1), .s s8, .s s11] [.s (.int .i64 s10), .s (.int .i64 s12)] μ =
  bif decide (s12 ≤ s1) then
  (bif decide (s10 < 1) then
    (some (.ret, [.s .nilSlice, .s (.bool false)], μ))
    else
    (indS 1 (.s s8) s12 fun p66 =>
      loadAt μ p66 fun v67 =>
      asI .i64 v67 fun n68 =>
      seqJ (levin_Coefficients_L3 [.s (.int .i64 s1), .s s8, .s (.int .i64 s10), .s s11, .s (.int .i64 s12)] [.s (.int .i64 (IntKind.wrap .i64 (n68 * 4096))), .s (.int .i64 1)] μ)
      (fun _ _ => none)
      (fun vs69 m70 =>
        headK vs69 fun a74 r75 =>
        asS a74 fun x76 =>
        headK r75 fun a77 r78 =>
        asB a77 fun b79 =>
        some (.ret, [.s x76, .s (.bool b79)], m70))
      (fun d73 vs71 m72 =>
        bif Nat.beq 2 d73 then (headK vs71 fun a80 r81 =>
          asI .i64 a80 fun n82 =>
          headK r81 fun a83 r84 =>
          asS a83 fun x85 =>
          headK r84 fun a86 r87 =>
          asI .i64 a86 fun n88 =>
          headK r87 fun a89 r90 =>
          asS a89 fun x91 =>
          headK r90 fun a92 r93 =>
          asI .i64 a92 fun n94 =>
          headK r93 fun a95 r96 =>
          asI .i64 a95 fun n97 =>
          (levin_floor [.s (.int .i64 n97), .s (.int .i64 n88)] m72).bind fun r98 =>
          asI .i64 r98.1 fun n99 =>
          appendA 3 1 8 (r98.2.next + 1) (r98.2.bump 3) (.s .nilSlice) (.s x91) fun x100 m101 =>
          asS x100 fun x102 =>
          seqJ (levin_Coefficients_L4 [.s (.int .i64 n82), .s x85, .s (.int .i64 n88), .s x91, .s (.int .i64 n94), .s (.int .i64 (if (if 4095 < n99 then 4095 else n99) > (-4095) then (if 4095 < n99 then 4095 else n99) else (-4095))), .s x102] [.s (.int .i64 1)] m101)
          (fun _ _ => none)
          (fun vs103 m104 =>
            headK vs103 fun a108 r109 =>
            asS a108 fun x110 =>
            headK r109 fun a111 r112 =>
            asB a111 fun b113 =>
            some (.ret, [.s x110, .s (.bool b113)], m104))
          (fun d107 vs105 m106 =>
            bif Nat.beq 4 d107 then (headK vs105 fun a114 r115 =>
              asI .i64 a114 fun n116 =>
              headK r115 fun a117 r118 =>
              asS a117 fun x119 =>
              headK r118 fun a120 r121 =>
              asI .i64 a120 fun n122 =>
              headK r121 fun a123 r124 =>
              asS a123 fun x125 =>
              headK r124 fun a126 r127 =>
              asI .i64 a126 fun n128 =>
              headK r127 fun a129 r130 =>
              asI .i64 a129 fun n131 =>
              indS 1 (.s x125) n128 fun p132 =>
              storeAt 1 m106 p132 (.s (.int .i64 n131)) fun m133 =>
              some (.normal, [.s (.int .i64 (IntKind.wrap .i64 (n122 - (Int.fdiv (IntKind.wrap .i64 ((Int.fdiv (IntKind.wrap .i64 (n131 * n131)) (2 ^ (12 : Nat))) * n122)) (2 ^ (12 : Nat)))))), .s (.int .i64 (IntKind.wrap .i64 (n128 + 1)))], m133)) else (none))) else (none))))
  else
  (some (.exit 0, [.s s11], μ)) := by rw [← G60_76]; kernel_rfl
theorem levin_Coefficients_L1_eq (os vs : List AV) (μ : AMem) : levin_Coefficients_L1 os vs μ = (levin_Coefficients_L1_B os vs μ).bind fun r => match r.1 with | .normal => levin_Coefficients_L1 os r.2.1 r.2.2 | _ => some r := loopA_eq _ _ _
theorem levin_Coefficients_eq (p0 : SV) (p1 : Int) (μ : AMem) : levin_Coefficients [.s p0, .s (.int .i64 p1)] μ =
  seqJ
  (bif !(decide (p1 < 1)) then
    (bif !(decide (p1 > 12)) then
      ((fixed_Check [.s p0] μ).bind fun r1 =>
        asI .i64 r1.1 fun n2 =>
        bif !(n2 != 0) then
        ((lenS (.s p0)).bind fun l3 =>
          some (.normal, [.s (.bool (decide (((l3 : Nat) : Int) ≤ p1)))], r1.2))
        else
        (some (.normal, [.s (.bool true)], r1.2)))
      else
      (some (.normal, [.s (.bool true)], μ)))
    else
    (some (.normal, [.s (.bool true)], μ)))
  (fun vs4 m5 =>
    headK vs4 fun a6 r7 =>
    asB a6 fun b8 =>
    bif b8 then
    (some (.tuple [.s .nilSlice, .s (.bool false)], m5))
    else
    ((levin_Auto [.s p0, .s (.int .i64 p1)] m5).bind fun r9 =>
      extrK 0 r9.1 fun t10 =>
      asS t10 fun x11 =>
      extrK 1 r9.1 fun t12 =>
      asI .i64 t12 fun n13 =>
      (levin_Scaled [.s x11] r9.2).bind fun r14 =>
      extrK 0 r14.1 fun t15 =>
      asS t15 fun x16 =>
      extrK 1 r14.1 fun t17 =>
      asI .i64 t17 fun n18 =>
      indS 1 (.s x16) 0 fun p19 =>
      loadAt r14.2 p19 fun v20 =>
      asI .i64 v20 fun n21 =>
      if 0 ≤ (IntKind.wrap .i64 (p1 + 1)) ∧ (IntKind.wrap .i64 (p1 + 1)) ≤ (IntKind.wrap .i64 (p1 + 1)) ∧ (IntKind.wrap .i64 (p1 + 1)) ≤ 9223372036854775807 ∧ (8 : Nat) * (IntKind.wrap .i64 (p1 + 1)) ≤ 140737488355328 then
      (seqJ (levin_Coefficients_L1 [.s (.int .i64 p1), .s x16, .s (.slice (r14.2.next + 2) 0 0 (Int.toNat (IntKind.wrap .i64 (p1 + 1))))] [.s (.int .i64 n21), .s (.int .i64 1)] ((r14.2.bump 4).set (r14.2.next + 2) (rowObj (zerosA [.int .i64 0] (Int.toNat (IntKind.wrap .i64 (p1 + 1)))) 1 3 (some (Int.toNat (IntKind.wrap .i64 (p1 + 1)))))))
        (fun _ _ => none)
        (fun vs22 m23 =>
          headK vs22 fun a27 r28 =>
          asS a27 fun x29 =>
          headK r28 fun a30 r31 =>
          asB a30 fun b32 =>
          some (.tuple [.s x29, .s (.bool b32)], m23))
        (fun d26 vs24 m25 =>
          bif Nat.beq 0 d26 then (headK vs24 fun a33 r34 =>
            asS a33 fun x35 =>
            (lenS (.s x35)).bind fun l36 =>
            cutS 1 (.s x35) 1 ((l36 : Nat) : Int) fun x37 =>
            (lenS x37).bind fun l38 =>
            seqJ (levin_Coefficients_L2 [.s x35, x37, .s (.int .i64 ((l38 : Nat) : Int))] [.s (.int .i64 0)] m25)
            (fun _ _ => none)
            (fun vs39 m40 =>
              headK vs39 fun a44 r45 =>
              asS a44 fun x46 =>
              headK r45 fun a47 r48 =>
              asB a47 fun b49 =>
              some (.tuple [.s x46, .s (.bool b49)], m40))
            (fun d43 vs41 m42 =>
              bif Nat.beq 6 d43 then (headK vs41 fun a50 r51 =>
                asS a50 fun x52 =>
                (lenS (.s x52)).bind fun l53 =>
                cutS 1 (.s x52) 1 ((l53 : Nat) : Int) fun x54 =>
                some (.tuple [x54, .s (.bool true)], m42)) else (none))) else (none))) else none))
  (fun vs55 m56 =>
    headK vs55 fun a60 r61 =>
    asS a60 fun x62 =>
    headK r61 fun a63 r64 =>
    asB a63 fun b65 =>
    some (.tuple [.s x62, .s (.bool b65)], m56))
  (fun d59 vs57 m58 =>
    none) := by rw [← G60_28, ← G60_74, ← G60_75]; kernel_rfl

/-! ### overdub/lpc.coef -/
noncomputable def G83 : FuncId → FunA := fun _ _ _ => none
def A83 : Ann := .two (.leaf) (.two (.leaf) (.leaf))
def R83 : Slots := [(2, .b)]
noncomputable def lpc_coef : FunA := denF Try.prog G83 Try.f83 A83 R83
theorem lpc_coef_eq (p0 : Int) (μ : AMem) : lpc_coef [.s (.int .i64 p0)] μ =
  bif decide (p0 ≥ (-32768)) then
  (some (.s (.bool (decide (p0 ≤ 32767))), μ))
  else
  (some (.s (.bool false), μ)) := by kernel_rfl

/-! ### overdub/lpc.May -/
noncomputable def G68 : FuncId → FunA := fun g => bif Nat.beq g 83 then lpc_coef else fun _ _ => none
theorem G68_83 : G68 83 = lpc_coef := by kernel_rfl
def A68 : Ann := .two (.leaf) (.two (.two (.leaf) (.join [(0, .s)] [] [] (.loop [(7, .i .i64)] [0, 5, 6] [0] (.two (.leaf) (.two (.two (.leaf) (.leaf)) (.two (.join [(0, .s), (5, .s), (6, .i .i64), (7, .i .i64)] [] [] (.two (.leaf) (.two (.leaf) (.two (.two (.leaf) (.leaf)) (.leaf)))) .leaf) (.leaf))))) .leaf)) (.two (.leaf) (.leaf)))
def R68 : Slots := [(2, .b)]
noncomputable def lpc_May : FunA := denF Try.prog G68 Try.f68 A68 R68
noncomputable def lpc_May_L1_B (os vs : List AV) (μ : AMem) : Option Res := joinK [(7, .i .i64)] vs (envO [0, 5, 6] os) fun e => den Try.prog G68 Try.f68.ntmps (cL (cL (cR (cL (cR (bodyOf Try.f68)))))) (aL (aL (aR (aL (aR A68))))) { ret := R68, exits := [(0, [(0, .s)])] } Res e μ fun ex e μ => some (ex, valsOf (Lv.at { ret := R68, exits := [(0, [(0, .s)])] } [(7, .i .i64)] ex) e, μ)
noncomputable def lpc_May_L1 (os vs : List AV) (μ : AMem) : Option Res := loopA (lpc_May_L1_B os) vs μ
theorem lpc_May_L1_B_eq (s0 : SV) (s5 : SV) (s6 : Int) (s7 : Int) (μ : AMem) : lpc_May_L1_B [.s s0, .s s5, .s (.int .i64 s6)] [.s (.int .i64 s7)] μ =
  bif decide (s7 < s6) then
  (indS 1 (.s s5) s7 fun p15 =>
    loadAt μ p15 fun v16 =>
    asI .i64 v16 fun n17 =>
    (lpc_coef [.s (.int .i64 n17)] μ).bind fun r18 =>
    asB r18.1 fun b19 =>
    bif (!b19) then
    (some (.ret, [.s (.bool false)], r18.2))
    else
    (some (.normal, [.s (.int .i64 (IntKind.wrap .i64 (s7 + 1)))], r18.2)))
  else
  (some (.exit 0, [.s s0], μ)) := by rw [← G68_83]; kernel_rfl
theorem lpc_May_L1_eq (os vs : List AV) (μ : AMem) : lpc_May_L1 os vs μ = (lpc_May_L1_B os vs μ).bind fun r => match r.1 with | .normal => lpc_May_L1 os r.2.1 r.2.2 | _ => some r := loopA_eq _ _ _
theorem lpc_May_eq (p0 : SV) (μ : AMem) : lpc_May [.s p0] μ =
  (lenS (.s p0)).bind fun l1 =>
  seqJ (lpc_May_L1 [.s p0, .s p0, .s (.int .i64 ((l1 : Nat) : Int))] [.s (.int .i64 0)] μ)
  (fun _ _ => none)
  (fun vs2 m3 =>
    headK vs2 fun a7 r8 =>
    asB a7 fun b9 =>
    some (.s (.bool b9), m3))
  (fun d6 vs4 m5 =>
    bif Nat.beq 0 d6 then (headK vs4 fun a10 r11 =>
      asS a10 fun x12 =>
      (lenS (.s x12)).bind fun l13 =>
      bif decide (((l13 : Nat) : Int) ≥ 1) then
      ((lenS (.s x12)).bind fun l14 =>
        some (.s (.bool (decide (((l14 : Nat) : Int) ≤ 12))), m5))
      else
      (some (.s (.bool false), m5))) else (none)) := by kernel_rfl

/-! ### overdub/lpc.cut -/
noncomputable def G84 : FuncId → FunA := fun _ _ _ => none
def A84 : Ann := .two (.leaf) (.two (.join [(8, .b)] [0] [] (.leaf) (.two (.two (.leaf) (.leaf)) (.leaf))) (.two (.leaf) (.leaf)))
def R84 : Slots := [(2, .i .i64)]
noncomputable def lpc_cut : FunA := denF Try.prog G84 Try.f84 A84 R84
theorem lpc_cut_eq (p0 : Int) (μ : AMem) : lpc_cut [.s (.int .i64 p0)] μ =
  seqJ
  (bif !(decide (p0 < (-16777216))) then
    (some (.normal, [.s (.bool (decide (p0 > 16777216)))], μ))
    else
    (some (.normal, [.s (.bool true)], μ)))
  (fun vs1 m2 =>
    headK vs1 fun a3 r4 =>
    asB a3 fun b5 =>
    bif b5 then
    (some (.s (.int .i64 0), m2))
    else
    (some (.s (.int .i64 p0), m2)))
  (fun vs6 m7 =>
    headK vs6 fun a11 r12 =>
    asI .i64 a11 fun n13 =>
    some (.s (.int .i64 n13), m7))
  (fun d10 vs8 m9 =>
    none) := by kernel_rfl

/-! ### overdub/lpc.Guess -/
noncomputable def G70 : FuncId → FunA := fun g => bif Nat.beq g 83 then lpc_coef else bif Nat.beq g 84 then lpc_cut else fun _ _ => none
theorem G70_83 : G70 83 = lpc_coef := by kernel_rfl
theorem G70_84 : G70 84 = lpc_cut := by kernel_rfl
def A70 : Ann := .two (.leaf) (.two (.leaf) (.two (.two (.leaf) (.join [(5, .i .i64)] [] [] (.loop [(5, .i .i64), (12, .i .i64)] [0, 1, 11] [0] (.two (.leaf) (.two (.two (.leaf) (.leaf)) (.join [(5, .i .i64)] [0, 1, 11, 12] [] (.join [(0, .s), (1, .s), (5, .i .i64), (11, .i .i64), (12, .i .i64)] [] [] (.two (.leaf) (.two (.leaf) (.two (.ord [0, 1, 2, 3, 4, 5, 6, 7, 8, 9, 10, 11, 12, 13, 14, 15, 16]) (.leaf)))) .leaf) (.leaf))))) .leaf)) (.two (.leaf) (.leaf))))
def R70 : Slots := [(4, .i .i64)]
noncomputable def lpc_Guess : FunA := denF Try.prog G70 Try.f70 A70 R70
noncomputable def lpc_Guess_L1_B (os vs : List AV) (μ : AMem) : Option Res := joinK [(5, .i .i64), (12, .i .i64)] vs (envO [0, 1, 11] os) fun e => den Try.prog G70 Try.f70.ntmps (cL (cL (cR (cL (cR (cR (bodyOf Try.f70))))))) (aL (aL (aR (aL (aR (aR A70)))))) { ret := R70, exits := [(0, [(5, .i .i64)])] } Res e μ fun ex e μ => some (ex, valsOf (Lv.at { ret := R70, exits := [(0, [(5, .i .i64)])] } [(5, .i .i64), (12, .i .i64)] ex) e, μ)
noncomputable def lpc_Guess_L1 (os vs : List AV) (μ : AMem) : Option Res := loopA (lpc_Guess_L1_B os) vs μ
theorem lpc_Guess_L1_B_eq (s0 : SV) (s1 : SV) (s11 : Int) (s5 : Int) (s12 : Int) (μ : AMem) : lpc_Guess_L1_B [.s s0, .s s1, .s (.int .i64 s11)] [.s (.int .i64 s5), .s (.int .i64 s12)] μ =
  bif decide (s12 < s11) then
  (seqJ
    (indS 1 (.s s1) s12 fun p14 =>
      loadAt μ p14 fun v15 =>
      asI .i64 v15 fun n16 =>
      (lpc_coef [.s (.int .i64 n16)] μ).bind fun r17 =>
      asB r17.1 fun b18 =>
      bif b18 then
      (indS 1 (.s s1) s12 fun p19 =>
        loadAt r17.2 p19 fun v20 =>
        asI .i64 v20 fun n21 =>
        (lenS (.s s0)).bind fun l22 =>
        indS 1 (.s s0) (IntKind.wrap .i64 ((IntKind.wrap .i64 (((l22 : Nat) : Int) - 1)) - s12)) fun p23 =>
        loadAt r17.2 p23 fun v24 =>
        asI .i64 v24 fun n25 =>
        (lpc_cut [.s (.int .i64 n25)] r17.2).bind fun r26 =>
        asI .i64 r26.1 fun n27 =>
        checkA ((loadAt r26.2 p19 some) = some (.s (.int .i64 n21)))
        (some (.normal, [.s (.int .i64 (IntKind.wrap .i64 (s5 + (IntKind.wrap .i64 (n21 * n27)))))], r26.2)))
      else
      (some (.normal, [.s (.int .i64 s5)], r17.2)))
    (fun vs28 m29 =>
      headK vs28 fun a30 r31 =>
      asI .i64 a30 fun n32 =>
      some (.normal, [.s (.int .i64 n32), .s (.int .i64 (IntKind.wrap .i64 (s12 + 1)))], m29))
    (fun vs33 m34 =>
      headK vs33 fun a38 r39 =>
      asI .i64 a38 fun n40 =>
      some (.ret, [.s (.int .i64 n40)], m34))
    (fun d37 vs35 m36 =>
      none))
  else
  (some (.exit 0, [.s (.int .i64 s5)], μ)) := by rw [← G70_83, ← G70_84]; kernel_rfl
theorem lpc_Guess_L1_eq (os vs : List AV) (μ : AMem) : lpc_Guess_L1 os vs μ = (lpc_Guess_L1_B os vs μ).bind fun r => match r.1 with | .normal => lpc_Guess_L1 os r.2.1 r.2.2 | _ => some r := loopA_eq _ _ _
theorem lpc_Guess_eq (p0 : SV) (p1 : SV) (μ : AMem) : lpc_Guess [.s p0, .s p1] μ =
  (lenS (.s p0)).bind fun l1 =>
  (lenS (.s p1)).bind fun l2 =>
  seqJ (lpc_Guess_L1 [.s p0, .s p1, .s (.int .i64 (if 12 < (if ((l2 : Nat) : Int) < ((l1 : Nat) : Int) then ((l2 : Nat) : Int) else ((l1 : Nat) : Int)) then 12 else (if ((l2 : Nat) : Int) < ((l1 : Nat) : Int) then ((l2 : Nat) : Int) else ((l1 : Nat) : Int))))] [.s (.int .i64 0), .s (.int .i64 0)] μ)
  (fun _ _ => none)
  (fun vs3 m4 =>
    headK vs3 fun a8 r9 =>
    asI .i64 a8 fun n10 =>
    some (.s (.int .i64 n10), m4))
  (fun d7 vs5 m6 =>
    bif Nat.beq 0 d7 then (headK vs5 fun a11 r12 =>
      asI .i64 a11 fun n13 =>
      some (.s (.int .i64 (Int.fdiv n13 (2 ^ (12 : Nat)))), m6)) else (none)) := by kernel_rfl

/-! ### overdub/lpc.Residual -/
noncomputable def G61 : FuncId → FunA := fun g => bif Nat.beq g 68 then lpc_May else bif Nat.beq g 28 then fixed_Check else bif Nat.beq g 70 then lpc_Guess else fun _ _ => none
theorem G61_68 : G61 68 = lpc_May := by kernel_rfl
theorem G61_28 : G61 28 = fixed_Check := by kernel_rfl
theorem G61_70 : G61 70 = lpc_Guess := by kernel_rfl
def A61 : Ann := .two (.leaf) (.two (.join [(18, .b)] [0, 1] [] (.leaf) (.two (.two (.leaf) (.leaf)) (.leaf))) (.two (.two (.leaf) (.two (.leaf) (.two (.two (.leaf) (.leaf)) (.leaf)))) (.two (.leaf) (.two (.two (.leaf) (.join [(7, .s)] [] [] (.loop [(7, .s), (8, .i .i64)] [0, 1] [0] (.two (.two (.leaf) (.two (.leaf) (.leaf))) (.two (.join [(0, .s), (1, .s), (7, .s), (8, .i .i64)] [] [] (.ord [0, 1, 2, 3, 4, 5, 6, 7, 8, 9, 10, 11, 12, 13]) .leaf) (.leaf)))) .leaf)) (.two (.leaf) (.leaf))))))
def R61 : Slots := [(4, .s), (5, .i .i64)]
noncomputable def lpc_Residual : FunA := denF Try.prog G61 Try.f61 A61 R61
noncomputable def lpc_Residual_L1_B (os vs : List AV) (μ : AMem) : Option Res := joinK [(7, .s), (8, .i .i64)] vs (envO [0, 1] os) fun e => den Try.prog G61 Try.f61.ntmps (cL (cL (cR (cL (cR (cR (cR (cR (bodyOf Try.f61))))))))) (aL (aL (aR (aL (aR (aR (aR (aR A61)))))))) { ret := R61, exits := [(0, [(7, .s)])] } Res e μ fun ex e μ => some (ex, valsOf (Lv.at { ret := R61, exits := [(0, [(7, .s)])] } [(7, .s), (8, .i .i64)] ex) e, μ)
noncomputable def lpc_Residual_L1 (os vs : List AV) (μ : AMem) : Option Res := loopA (lpc_Residual_L1_B os) vs μ
theorem lpc_Residual_L1_B_eq (s0 : SV) (s1 : SV) (s7 : SV) (s8 : Int) (μ : AMem) : lpc_Residual_L1_B [.s s0, .s s1] [.s s7, .s (.int .i64 s8)] μ =
  (lenS (.s s0)).bind fun l38 =>
  bif decide (s8 < ((l38 : Nat) : Int)) then
  (indS 1 (.s s0) s8 fun p39 =>
    loadAt (μ.bump 14) p39 fun v40 =>
    asI .i64 v40 fun n41 =>
    cutS 1 (.s s0) 0 s8 fun x42 =>
    (lpc_Guess [x42, .s s1] (μ.bump 14)).bind fun r43 =>
    asI .i64 r43.1 fun n44 =>
    checkA ((loadAt r43.2 p39 some) = some (.s (.int .i64 n41)))
    (checkA (r43.2.obj (μ.next + 11) = none)
      (appendA 3 1 8 (μ.next + 12) (r43.2.set (μ.next + 11) (rowObj [.int .i64 (IntKind.wrap .i64 (n41 - n44))] 1 3 (some 1))) (.s s7) (.s (.slice (μ.next + 11) 0 0 1)) fun x45 m46 =>
        asS x45 fun x47 =>
        some (.normal, [.s x47, .s (.int .i64 (IntKind.wrap .i64 (s8 + 1)))], m46))))
  else
  (some (.exit 0, [.s s7], μ)) := by rw [← G61_70]; kernel_rfl
theorem lpc_Residual_L1_eq (os vs : List AV) (μ : AMem) : lpc_Residual_L1 os vs μ = (lpc_Residual_L1_B os vs μ).bind fun r => match r.1 with | .normal => lpc_Residual_L1 os r.2.1 r.2.2 | _ => some r := loopA_eq _ _ _
theorem lpc_Residual_eq (p0 : SV) (p1 : SV) (μ : AMem) : lpc_Residual [.s p0, .s p1] μ =
  seqJ
  ((lpc_May [.s p1] μ).bind fun r1 =>
    asB r1.1 fun b2 =>
    bif !(!b2) then
    ((lenS (.s p0)).bind fun l3 =>
      (lenS (.s p1)).bind fun l4 =>
      some (.normal, [.s (.bool (decide (((l3 : Nat) : Int) < ((l4 : Nat) : Int))))], r1.2))
    else
    (some (.normal, [.s (.bool true)], r1.2)))
  (fun vs5 m6 =>
    headK vs5 fun a7 r8 =>
    asB a7 fun b9 =>
    bif b9 then
    (some (.tuple [.s .nilSlice, .s (.int .i64 1)], m6))
    else
    ((fixed_Check [.s p0] m6).bind fun r10 =>
      asI .i64 r10.1 fun n11 =>
      bif (n11 != 0) then
      (some (.tuple [.s .nilSlice, .s (.int .i64 n11)], r10.2))
      else
      ((lenS (.s p1)).bind fun l12 =>
        seqJ (lpc_Residual_L1 [.s p0, .s p1] [.s .nilSlice, .s (.int .i64 ((l12 : Nat) : Int))] r10.2)
        (fun _ _ => none)
        (fun vs13 m14 =>
          headK vs13 fun a18 r19 =>
          asS a18 fun x20 =>
          headK r19 fun a21 r22 =>
          asI .i64 a21 fun n23 =>
          some (.tuple [.s x20, .s (.int .i64 n23)], m14))
        (fun d17 vs15 m16 =>
          bif Nat.beq 0 d17 then (headK vs15 fun a24 r25 =>
            asS a24 fun x26 =>
            some (.tuple [.s x26, .s (.int .i64 0)], m16)) else (none)))))
  (fun vs27 m28 =>
    headK vs27 fun a32 r33 =>
    asS a32 fun x34 =>
    headK r33 fun a35 r36 =>
    asI .i64 a35 fun n37 =>
    some (.tuple [.s x34, .s (.int .i64 n37)], m28))
  (fun d31 vs29 m30 =>
    none) := by rw [← G61_68, ← G61_28]; kernel_rfl

/-! ### overdub/frame.predicted -/
noncomputable def G45 : FuncId → FunA := fun g => bif Nat.beq g 60 then levin_Coefficients else bif Nat.beq g 61 then lpc_Residual else bif Nat.beq g 42 then frame_samples else bif Nat.beq g 41 then bits_Writer_Put else bif Nat.beq g 44 then frame_residuals else fun _ _ => none
theorem G45_60 : G45 60 = levin_Coefficients := by kernel_rfl
theorem G45_61 : G45 61 = lpc_Residual := by kernel_rfl
theorem G45_42 : G45 42 = frame_samples := by kernel_rfl
theorem G45_41 : G45 41 = bits_Writer_Put := by kernel_rfl
theorem G45_44 : G45 44 = frame_residuals := by kernel_rfl
def A45 : Ann := .two (.leaf) (.two (.leaf) (.two (.two (.leaf) (.two (.two (.leaf) (.leaf)) (.leaf))) (.two (.leaf) (.two (.two (.leaf) (.two (.two (.leaf) (.leaf)) (.leaf))) (.two (.leaf) (.two (.two (.leaf) (.join [(0, .s), (9, .s)] [] [] (.loop [(36, .i .i64)] [0, 9, 34, 35] [0] (.two (.leaf) (.two (.two (.leaf) (.leaf)) (.two (.join [(0, .s), (9, .s), (34, .s), (35, .i .i64), (36, .i .i64)] [] [] (.two (.leaf) (.leaf)) .leaf) (.leaf))))) .leaf)) (.two (.leaf) (.leaf))))))))
def R45 : Slots := [(6, .b)]
noncomputable def frame_predicted : FunA := denF Try.prog G45 Try.f45 A45 R45
noncomputable def frame_predicted_L1_B (os vs : List AV) (μ : AMem) : Option Res := joinK [(36, .i .i64)] vs (envO [0, 9, 34, 35] os) fun e => den Try.prog G45 Try.f45.ntmps (cL (cL (cR (cL (cR (cR (cR (cR (cR (cR (bodyOf Try.f45))))))))))) (aL (aL (aR (aL (aR (aR (aR (aR (aR (aR A45)))))))))) { ret := R45, exits := [(0, [(0, .s), (9, .s)])] } Res e μ fun ex e μ => some (ex, valsOf (Lv.at { ret := R45, exits := [(0, [(0, .s), (9, .s)])] } [(36, .i .i64)] ex) e, μ)
noncomputable def frame_predicted_L1 (os vs : List AV) (μ : AMem) : Option Res := loopA (frame_predicted_L1_B os) vs μ
theorem frame_predicted_L1_B_eq (s0 t0 u0 : Nat) (s9 : SV) (s34 : SV) (s35 : Int) (s36 : Int) (μ : AMem) : frame_predicted_L1_B [.s (.ptr s0 t0 u0), .s s9, .s s34, .s (.int .i64 s35)] [.s (.int .i64 s36)] μ =
  bif decide (s36 < s35) then
  (indS 1 (.s s34) s36 fun p30 =>
    loadAt μ p30 fun v31 =>
    asI .i64 v31 fun n32 =>
    (bits_Writer_Put [.s (.ptr s0 t0 u0), .s (.int .i64 (IntKind.wrap .i64 (n32 + 32768))), .s (.int .i64 16)] μ).bind fun r33 =>
    asB r33.1 fun b34 =>
    some (.normal, [.s (.int .i64 (IntKind.wrap .i64 (s36 + 1)))], r33.2))
  else
  (some (.exit 0, [.s (.ptr s0 t0 u0), .s s9], μ)) := by rw [← G45_41]; kernel_rfl
theorem frame_predicted_L1_eq (os vs : List AV) (μ : AMem) : frame_predicted_L1 os vs μ = (frame_predicted_L1_B os vs μ).bind fun r => match r.1 with | .normal => frame_predicted_L1 os r.2.1 r.2.2 | _ => some r := loopA_eq _ _ _
theorem frame_predicted_eq (p0 q0 o0 : Nat) (p1 : SV) (p2 : Int) (μ : AMem) : frame_predicted [.s (.ptr p0 q0 o0), .s p1, .s (.int .i64 p2)] μ =
  (levin_Coefficients [.s p1, .s (.int .i64 p2)] μ).bind fun r1 =>
  extrK 0 r1.1 fun t2 =>
  asS t2 fun x3 =>
  extrK 1 r1.1 fun t4 =>
  asB t4 fun b5 =>
  bif (!b5) then
  (some (.s (.bool false), r1.2))
  else
  ((lpc_Residual [.s p1, .s x3] r1.2).bind fun r6 =>
    extrK 0 r6.1 fun t7 =>
    asS t7 fun x8 =>
    extrK 1 r6.1 fun t9 =>
    asI .i64 t9 fun n10 =>
    bif (n10 != 0) then
    (some (.s (.bool false), r6.2))
    else
    (cutS 1 (.s p1) 0 p2 fun x11 =>
      (frame_samples [.s (.ptr p0 q0 o0), x11] r6.2).bind fun r12 =>
      (lenS (.s x3)).bind fun l13 =>
      seqJ (frame_predicted_L1 [.s (.ptr p0 q0 o0), .s x8, .s x3, .s (.int .i64 ((l13 : Nat) : Int))] [.s (.int .i64 0)] r12.2)
      (fun _ _ => none)
      (fun vs14 m15 =>
        headK vs14 fun a19 r20 =>
        asB a19 fun b21 =>
        some (.s (.bool b21), m15))
      (fun d18 vs16 m17 =>
        bif Nat.beq 0 d18 then (headK vs16 fun a22 r23 =>
          asS a22 fun x24 =>
          headK r23 fun a25 r26 =>
          asS a25 fun x27 =>
          (frame_residuals [.s x24, .s x27] m17).bind fun r28 =>
          asB r28.1 fun b29 =>
          some (.s (.bool b29), r28.2)) else (none)))) := by rw [← G45_60, ← G45_61, ← G45_42, ← G45_44]; kernel_rfl

/-! ### overdub/frame.digits -/
noncomputable def G29 : FuncId → FunA := fun g => bif Nat.beq g 40 then bits_NewWriter else bif Nat.beq g 41 then bits_Writer_Put else bif Nat.beq g 42 then frame_samples else bif Nat.beq g 43 then fixed_Residual else bif Nat.beq g 44 then frame_residuals else bif Nat.beq g 45 then frame_predicted else fun _ _ => none
theorem G29_40 : G29 40 = bits_NewWriter := by kernel_rfl
theorem G29_41 : G29 41 = bits_Writer_Put := by kernel_rfl
theorem G29_42 : G29 42 = frame_samples := by kernel_rfl
theorem G29_43 : G29 43 = fixed_Residual := by kernel_rfl
theorem G29_44 : G29 44 = frame_residuals := by kernel_rfl
theorem G29_45 : G29 45 = frame_predicted := by kernel_rfl
def A29 : Ann := .two (.leaf) (.two (.leaf) (.two (.leaf) (.two (.leaf) (.join [] [6] [] (.join [(6, .s)] [] [] (.two (.leaf) (.two (.two (.two (.leaf) (.join [(1, .s), (6, .s)] [] [] (.loop [(25, .i .i64)] [1, 6, 23, 24] [1] (.two (.leaf) (.two (.two (.leaf) (.leaf)) (.two (.join [(1, .s), (6, .s), (23, .s), (24, .i .i64), (25, .i .i64)] [] [] (.two (.leaf) (.two (.leaf) (.two (.two (.leaf) (.leaf)) (.leaf)))) .leaf) (.leaf))))) .leaf)) (.leaf)) (.two (.leaf) (.two (.leaf) (.join [(45, .b)] [0, 1, 6] [] (.leaf) (.two (.two (.leaf) (.two (.leaf) (.two (.two (.leaf) (.two (.two (.leaf) (.leaf)) (.leaf))) (.two (.leaf) (.two (.leaf) (.leaf)))))) (.join [(71, .b)] [0, 1, 6] [] (.leaf) (.two (.two (.leaf) (.leaf)) (.two (.leaf) (.leaf)))))))))) .leaf) (.two (.leaf) (.leaf))))))
def R29 : Slots := [(4, .s), (5, .b)]
noncomputable def frame_digits : FunA := denF Try.prog G29 Try.f29 A29 R29
noncomputable def frame_digits_L1_B (os vs : List AV) (μ : AMem) : Option Res := joinK [(25, .i .i64)] vs (envO [1, 6, 23, 24] os) fun e => den Try.prog G29 Try.f29.ntmps (cL (cL (cR (cL (cL (cR (cL (cL (cR (cR (cR (cR (bodyOf Try.f29))))))))))))) (aL (aL (aR (aL (aL (aR (aL (aL (aR (aR (aR (aR A29)))))))))))) { ret := R29, exits := [(1, [(1, .s), (6, .s)]), (0, [(6, .s)])] } Res e μ fun ex e μ => some (ex, valsOf (Lv.at { ret := R29, exits := [(1, [(1, .s), (6, .s)]), (0, [(6, .s)])] } [(25, .i .i64)] ex) e, μ)
noncomputable def frame_digits_L1 (os vs : List AV) (μ : AMem) : Option Res := loopA (frame_digits_L1_B os) vs μ
theorem frame_digits_L1_B_eq (s1 : SV) (s6 : SV) (s23 : SV) (s24 : Int) (s25 : Int) (μ : AMem) : frame_digits_L1_B [.s s1, .s s6, .s s23, .s (.int .i64 s24)] [.s (.int .i64 s25)] μ =
  bif decide (s25 < s24) then
  (indS 1 (.s s23) s25 fun p85 =>
    loadAt μ p85 fun v86 =>
    asI .i64 v86 fun n87 =>
    indS 1 (.s s1) 0 fun p88 =>
    loadAt μ p88 fun v89 =>
    asI .i64 v89 fun n90 =>
    bif (n87 != n90) then
    (some (.ret, [.s .nilPtr, .s (.bool false)], μ))
    else
    (some (.normal, [.s (.int .i64 (IntKind.wrap .i64 (s25 + 1)))], μ)))
  else
  (some (.exit 1, [.s s1, .s s6], μ)) := by kernel_rfl
theorem frame_digits_L1_eq (os vs : List AV) (μ : AMem) : frame_digits_L1 os vs μ = (frame_digits_L1_B os vs μ).bind fun r => match r.1 with | .normal => frame_digits_L1 os r.2.1 r.2.2 | _ => some r := loopA_eq _ _ _
theorem frame_digits_eq (p0 : Int) (p1 : SV) (μ : AMem) : frame_digits [.s (.int .i64 p0), .s p1] μ =
  (bits_NewWriter [] μ).bind fun r1 =>
  asS r1.1 fun x2 =>
  (bits_Writer_Put [.s x2, .s (.int .i64 p0), .s (.int .i64 8)] r1.2).bind fun r3 =>
  asB r3.1 fun b4 =>
  (lenS (.s p1)).bind fun l5 =>
  (bits_Writer_Put [.s x2, .s (.int .i64 ((l5 : Nat) : Int)), .s (.int .i64 8)] r3.2).bind fun r6 =>
  asB r6.1 fun b7 =>
  seqJ
  (bif (p0 == 0) then
    ((lenS (.s p1)).bind fun l8 =>
      seqJ (frame_digits_L1 [.s p1, .s x2, .s p1, .s (.int .i64 ((l8 : Nat) : Int))] [.s (.int .i64 0)] r6.2)
      (fun _ _ => none)
      (fun vs9 m10 =>
        headK vs9 fun a14 r15 =>
        asS a14 fun x16 =>
        headK r15 fun a17 r18 =>
        asB a17 fun b19 =>
        some (.ret, [.s x16, .s (.bool b19)], m10))
      (fun d13 vs11 m12 =>
        bif Nat.beq 1 d13 then (headK vs11 fun a20 r21 =>
          asS a20 fun x22 =>
          headK r21 fun a23 r24 =>
          asS a23 fun x25 =>
          cutS 1 (.s x22) 0 1 fun x26 =>
          (frame_samples [.s x25, x26] m12).bind fun r27 =>
          some (.normal, [], r27.2)) else (none)))
    else
    (bif (p0 == 1) then
      ((frame_samples [.s x2, .s p1] r6.2).bind fun r28 =>
        some (.normal, [], r28.2))
      else
      (seqJ
        (bif decide (p0 ≥ 2) then
          (some (.normal, [.s (.bool (decide (p0 ≤ 6)))], r6.2))
          else
          (some (.normal, [.s (.bool false)], r6.2)))
        (fun vs29 m30 =>
          headK vs29 fun a31 r32 =>
          asB a31 fun b33 =>
          bif b33 then
          ((fixed_Residual [.s p1, .s (.int .i64 (IntKind.wrap .i64 (p0 - 2)))] m30).bind fun r34 =>
            extrK 0 r34.1 fun t35 =>
            asS t35 fun x36 =>
            extrK 1 r34.1 fun t37 =>
            asI .i64 t37 fun n38 =>
            bif (n38 != 0) then
            (some (.ret, [.s .nilPtr, .s (.bool false)], r34.2))
            else
            (cutS 1 (.s p1) 0 (IntKind.wrap .i64 (p0 - 2)) fun x39 =>
              (frame_samples [.s x2, x39] r34.2).bind fun r40 =>
              (frame_residuals [.s x2, .s x36] r40.2).bind fun r41 =>
              asB r41.1 fun b42 =>
              some (.ret, [.s x2, .s (.bool b42)], r41.2)))
          else
          (seqJ
            (bif decide (p0 > 6) then
              (some (.normal, [.s (.bool (decide (p0 ≤ 18)))], m30))
              else
              (some (.normal, [.s (.bool false)], m30)))
            (fun vs43 m44 =>
              headK vs43 fun a45 r46 =>
              asB a45 fun b47 =>
              bif b47 then
              ((frame_predicted [.s x2, .s p1, .s (.int .i64 (IntKind.wrap .i64 (p0 - 6)))] m44).bind fun r48 =>
                asB r48.1 fun b49 =>
                some (.ret, [.s x2, .s (.bool b49)], r48.2))
              else
              (some (.ret, [.s .nilPtr, .s (.bool false)], m44)))
            (fun vs50 m51 =>
              headK vs50 fun a55 r56 =>
              asS a55 fun x57 =>
              headK r56 fun a58 r59 =>
              asB a58 fun b60 =>
              some (.ret, [.s x57, .s (.bool b60)], m51))
            (fun d54 vs52 m53 =>
              none)))
        (fun vs61 m62 =>
          headK vs61 fun a66 r67 =>
          asS a66 fun x68 =>
          headK r67 fun a69 r70 =>
          asB a69 fun b71 =>
          some (.ret, [.s x68, .s (.bool b71)], m62))
        (fun d65 vs63 m64 =>
          none))))
  (fun vs72 m73 =>
    some (.tuple [.s x2, .s (.bool true)], m73))
  (fun vs74 m75 =>
    headK vs74 fun a79 r80 =>
    asS a79 fun x81 =>
    headK r80 fun a82 r83 =>
    asB a82 fun b84 =>
    some (.tuple [.s x81, .s (.bool b84)], m75))
  (fun d78 vs76 m77 =>
    none) := by rw [← G29_40, ← G29_41, ← G29_42, ← G29_43, ← G29_44, ← G29_45]; kernel_rfl

/-! ### (*overdub/bits.Writer).Len -/
noncomputable def G30 : FuncId → FunA := fun _ _ _ => none
def A30 : Ann := .two (.leaf) (.two (.leaf) (.leaf))
def R30 : Slots := [(2, .i .i64)]
noncomputable def bits_Writer_Len : FunA := denF Try.prog G30 Try.f30 A30 R30
theorem bits_Writer_Len_eq (p0 q0 o0 : Nat) (μ : AMem) : bits_Writer_Len [.s (.ptr p0 q0 o0)] μ =
  (μ.cell p0 q0 (o0 + 1)).bind fun x1 =>
  asI .i64 (.s x1) fun n2 =>
  some (.s (.int .i64 n2), μ) := by kernel_rfl

/-! ### (*overdub/bits.Writer).Bytes -/
noncomputable def G31 : FuncId → FunA := fun _ _ _ => none
def A31 : Ann := .two (.leaf) (.two (.leaf) (.leaf))
def R31 : Slots := [(2, .s)]
noncomputable def bits_Writer_Bytes : FunA := denF Try.prog G31 Try.f31 A31 R31
theorem bits_Writer_Bytes_eq (p0 q0 o0 : Nat) (μ : AMem) : bits_Writer_Bytes [.s (.ptr p0 q0 o0)] μ =
  ((μ.bump 6).cell p0 q0 (o0 + 0)).bind fun x1 =>
  appendA 5 1 1 (μ.next + 4) (μ.bump 6) (.s .nilSlice) (.s x1) fun x2 m3 =>
  asS x2 fun x4 =>
  some (.s x4, m3) := by kernel_rfl

/-! ### overdub/frame.Encode -/
noncomputable def G21 : FuncId → FunA := fun g => bif Nat.beq g 28 then fixed_Check else bif Nat.beq g 29 then frame_digits else bif Nat.beq g 30 then bits_Writer_Len else bif Nat.beq g 31 then bits_Writer_Bytes else fun _ _ => none
theorem G21_28 : G21 28 = fixed_Check := by kernel_rfl
theorem G21_29 : G21 29 = frame_digits := by kernel_rfl
theorem G21_30 : G21 30 = bits_Writer_Len := by kernel_rfl
theorem G21_31 : G21 31 = bits_Writer_Bytes := by kernel_rfl
def A21 : Ann := .two (.leaf) (.two (.join [(16, .b)] [0] [] (.leaf) (.two (.two (.leaf) (.leaf)) (.leaf))) (.two (.two (.leaf) (.two (.leaf) (.two (.two (.leaf) (.leaf)) (.leaf)))) (.two (.leaf) (.two (.two (.leaf) (.join [(5, .s)] [] [] (.loop [(5, .s), (22, .i .i64)] [0] [0] (.two (.leaf) (.two (.two (.leaf) (.leaf)) (.join [(5, .s)] [0, 22] [] (.join [(0, .s), (5, .s), (22, .i .i64)] [] [] (.two (.leaf) (.two (.leaf) (.join [(42, .b)] [0, 5, 7, 22] [] (.leaf) (.two (.leaf) (.leaf))))) .leaf) (.leaf))))) .leaf)) (.two (.leaf) (.leaf))))))
def R21 : Slots := [(2, .s), (3, .i .i64)]
noncomputable def frame_Encode : FunA := denF Try.prog G21 Try.f21 A21 R21
noncomputable def frame_Encode_L1_B (os vs : List AV) (μ : AMem) : Option Res := joinK [(5, .s), (22, .i .i64)] vs (envO [0] os) fun e => den Try.prog G21 Try.f21.ntmps (cL (cL (cR (cL (cR (cR (cR (cR (bodyOf Try.f21))))))))) (aL (aL (aR (aL (aR (aR (aR (aR A21)))))))) { ret := R21, exits := [(0, [(5, .s)])] } Res e μ fun ex e μ => some (ex, valsOf (Lv.at { ret := R21, exits := [(0, [(5, .s)])] } [(5, .s), (22, .i .i64)] ex) e, μ)
noncomputable def frame_Encode_L1 (os vs : List AV) (μ : AMem) : Option Res := loopA (frame_Encode_L1_B os) vs μ
theorem frame_Encode_L1_B_eq (s0 : SV) (s5 : SV) (s22 : Int) (μ : AMem) : frame_Encode_L1_B [.s s0] [.s s5, .s (.int .i64 s22)] μ =
  bif decide (s22 < 19) then
  (seqJ
    ((frame_digits [.s (.int .i64 s22), .s s0] μ).bind fun r37 =>
      extrK 0 r37.1 fun t38 =>
      asS t38 fun x39 =>
      extrK 1 r37.1 fun t40 =>
      asB t40 fun b41 =>
      seqJ
      (bif b41 then
        ((isNil (.s s5)).bind fun b42 =>
          bif !b42 then
          ((bits_Writer_Len [.s x39] r37.2).bind fun r43 =>
            asI .i64 r43.1 fun n44 =>
            (bits_Writer_Len [.s s5] r43.2).bind fun r45 =>
            asI .i64 r45.1 fun n46 =>
            some (.normal, [.s (.bool (decide (n44 < n46)))], r45.2))
          else
          (some (.normal, [.s (.bool true)], r37.2)))
        else
        (some (.normal, [.s (.bool false)], r37.2)))
      (fun vs47 m48 =>
        headK vs47 fun a49 r50 =>
        asB a49 fun b51 =>
        bif b51 then
        (some (.normal, [.s x39], m48))
        else
        (some (.normal, [.s s5], m48)))
      (fun vs52 m53 =>
        headK vs52 fun a57 r58 =>
        asS a57 fun x59 =>
        headK r58 fun a60 r61 =>
        asI .i64 a60 fun n62 =>
        some (.ret, [.s x59, .s (.int .i64 n62)], m53))
      (fun d56 vs54 m55 =>
        none))
    (fun vs63 m64 =>
      headK vs63 fun a65 r66 =>
      asS a65 fun x67 =>
      some (.normal, [.s x67, .s (.int .i64 (IntKind.wrap .i64 (s22 + 1)))], m64))
    (fun vs68 m69 =>
      headK vs68 fun a73 r74 =>
      asS a73 fun x75 =>
      headK r74 fun a76 r77 =>
      asI .i64 a76 fun n78 =>
      some (.ret, [.s x75, .s (.int .i64 n78)], m69))
    (fun d72 vs70 m71 =>
      none))
  else
  (some (.exit 0, [.s s5], μ)) := by rw [← G21_29, ← G21_30]; kernel_rfl
theorem frame_Encode_L1_eq (os vs : List AV) (μ : AMem) : frame_Encode_L1 os vs μ = (frame_Encode_L1_B os vs μ).bind fun r => match r.1 with | .normal => frame_Encode_L1 os r.2.1 r.2.2 | _ => some r := loopA_eq _ _ _
theorem frame_Encode_eq (p0 : SV) (μ : AMem) : frame_Encode [.s p0] μ =
  seqJ
  ((lenS (.s p0)).bind fun l1 =>
    bif !(decide (((l1 : Nat) : Int) < 1)) then
    ((lenS (.s p0)).bind fun l2 =>
      some (.normal, [.s (.bool (decide (((l2 : Nat) : Int) > 64)))], μ))
    else
    (some (.normal, [.s (.bool true)], μ)))
  (fun vs3 m4 =>
    headK vs3 fun a5 r6 =>
    asB a5 fun b7 =>
    bif b7 then
    (some (.tuple [.s .nilSlice, .s (.int .i64 4)], m4))
    else
    ((fixed_Check [.s p0] m4).bind fun r8 =>
      asI .i64 r8.1 fun n9 =>
      bif (n9 != 0) then
      (some (.tuple [.s .nilSlice, .s (.int .i64 n9)], r8.2))
      else
      (seqJ (frame_Encode_L1 [.s p0] [.s .nilPtr, .s (.int .i64 0)] r8.2)
        (fun _ _ => none)
        (fun vs10 m11 =>
          headK vs10 fun a15 r16 =>
          asS a15 fun x17 =>
          headK r16 fun a18 r19 =>
          asI .i64 a18 fun n20 =>
          some (.tuple [.s x17, .s (.int .i64 n20)], m11))
        (fun d14 vs12 m13 =>
          bif Nat.beq 0 d14 then (headK vs12 fun a21 r22 =>
            asS a21 fun x23 =>
            (bits_Writer_Bytes [.s x23] m13).bind fun r24 =>
            asS r24.1 fun x25 =>
            some (.tuple [.s x25, .s (.int .i64 0)], r24.2)) else (none)))))
  (fun vs26 m27 =>
    headK vs26 fun a31 r32 =>
    asS a31 fun x33 =>
    headK r32 fun a34 r35 =>
    asI .i64 a34 fun n36 =>
    some (.tuple [.s x33, .s (.int .i64 n36)], m27))
  (fun d30 vs28 m29 =>
    none) := by rw [← G21_28, ← G21_31]; kernel_rfl

/-! ### (*sync/atomic.Int64).Add -/
noncomputable def G24 : FuncId → FunA := fun _ _ _ => none
noncomputable def atomic_Int64_Add : FunA := addI64F

/-! ### overdub/crc.step -/
noncomputable def G79 : FuncId → FunA := fun _ _ _ => none
def A79 : Ann := .two (.leaf) (.two (.two (.leaf) (.join [(0, .i .u32)] [] [] (.loop [(0, .i .u32), (4, .i .i64)] [] [0] (.two (.leaf) (.two (.two (.leaf) (.leaf)) (.join [(0, .i .u32)] [4] [] (.join [(0, .i .u32), (4, .i .i64)] [] [] (.two (.leaf) (.two (.leaf) (.two (.leaf) (.two (.leaf) (.leaf))))) .leaf) (.leaf))))) .leaf)) (.two (.leaf) (.leaf)))
def R79 : Slots := [(2, .i .u32)]
noncomputable def crc_step : FunA := denF Try.prog G79 Try.f79 A79 R79
noncomputable def crc_step_L1_B (os vs : List AV) (μ : AMem) : Option Res := joinK [(0, .i .u32), (4, .i .i64)] vs (envO [] os) fun e => den Try.prog G79 Try.f79.ntmps (cL (cL (cR (cL (cR (bodyOf Try.f79)))))) (aL (aL (aR (aL (aR A79))))) { ret := R79, exits := [(0, [(0, .i .u32)])] } Res e μ fun ex e μ => some (ex, valsOf (Lv.at { ret := R79, exits := [(0, [(0, .i .u32)])] } [(0, .i .u32), (4, .i .i64)] ex) e, μ)
noncomputable def crc_step_L1 (os vs : List AV) (μ : AMem) : Option Res := loopA (crc_step_L1_B os) vs μ
theorem crc_step_L1_B_eq (s0 : Int) (s4 : Int) (μ : AMem) : crc_step_L1_B [] [.s (.int .u32 s0), .s (.int .i64 s4)] μ =
  bif decide (s4 < 8) then
  (seqJ
    (bif ((Int.fdiv s0 (2 ^ (31 : Nat))) == 1) then
      (some (.normal, [.s (.int .u32 (IntKind.wrap .u32 (BitVec.toNat ((BitVec.ofInt (IntKind.bits .u32) (IntKind.wrap .u32 (s0 * 2 ^ (1 : Nat)))) ^^^ (BitVec.ofInt (IntKind.bits .u32) 79764919)))))], μ))
      else
      (some (.normal, [.s (.int .u32 (IntKind.wrap .u32 (s0 * 2 ^ (1 : Nat))))], μ)))
    (fun vs12 m13 =>
      headK vs12 fun a14 r15 =>
      asI .u32 a14 fun n16 =>
      some (.normal, [.s (.int .u32 n16), .s (.int .i64 (IntKind.wrap .i64 (s4 + 1)))], m13))
    (fun vs17 m18 =>
      headK vs17 fun a22 r23 =>
      asI .u32 a22 fun n24 =>
      some (.ret, [.s (.int .u32 n24)], m18))
    (fun d21 vs19 m20 =>
      none))
  else
  (some (.exit 0, [.s (.int .u32 s0)], μ)) := by kernel_rfl
theorem crc_step_L1_eq (os vs : List AV) (μ : AMem) : crc_step_L1 os vs μ = (crc_step_L1_B os vs μ).bind fun r => match r.1 with | .normal => crc_step_L1 os r.2.1 r.2.2 | _ => some r := loopA_eq _ _ _
theorem crc_step_eq (p0 : Int) (μ : AMem) : crc_step [.s (.int .u32 p0)] μ =
  seqJ (crc_step_L1 [] [.s (.int .u32 p0), .s (.int .i64 0)] μ)
  (fun _ _ => none)
  (fun vs1 m2 =>
    headK vs1 fun a6 r7 =>
    asI .u32 a6 fun n8 =>
    some (.s (.int .u32 n8), m2))
  (fun d5 vs3 m4 =>
    bif Nat.beq 0 d5 then (headK vs3 fun a9 r10 =>
      asI .u32 a9 fun n11 =>
      some (.s (.int .u32 n11), m4)) else (none)) := by kernel_rfl

/-! ### (*overdub/crc.Table).fill -/
noncomputable def G63 : FuncId → FunA := fun g => bif Nat.beq g 79 then crc_step else fun _ _ => none
theorem G63_79 : G63 79 = crc_step := by kernel_rfl
def A63 : Ann := .two (.two (.leaf) (.join [(0, .s)] [] [] (.loop [(3, .i .i64)] [0] [0] (.two (.leaf) (.two (.two (.leaf) (.leaf)) (.two (.join [(0, .s), (3, .i .i64)] [] [] (.two (.leaf) (.ord [0, 1, 2, 3, 4, 5, 6, 7, 8, 9])) .leaf) (.leaf))))) .leaf)) (.leaf)
def R63 : Slots := []
noncomputable def crc_Table_fill : FunA := denF Try.prog G63 Try.f63 A63 R63
noncomputable def crc_Table_fill_L1_B (os vs : List AV) (μ : AMem) : Option Res := joinK [(3, .i .i64)] vs (envO [0] os) fun e => den Try.prog G63 Try.f63.ntmps (cL (cL (cR (cL (bodyOf Try.f63))))) (aL (aL (aR (aL A63)))) { ret := R63, exits := [(0, [(0, .s)])] } Res e μ fun ex e μ => some (ex, valsOf (Lv.at { ret := R63, exits := [(0, [(0, .s)])] } [(3, .i .i64)] ex) e, μ)
noncomputable def crc_Table_fill_L1 (os vs : List AV) (μ : AMem) : Option Res := loopA (crc_Table_fill_L1_B os) vs μ
theorem crc_Table_fill_L1_B_eq (s0 t0 u0 : Nat) (s3 : Int) (μ : AMem) : crc_Table_fill_L1_B [.s (.ptr s0 t0 u0)] [.s (.int .i64 s3)] μ =
  bif decide (s3 < 256) then
  ((crc_step [.s (.int .u32 (IntKind.wrap .u32 ((IntKind.wrap .u32 s3) * 2 ^ (24 : Nat))))] μ).bind fun r11 =>
    asI .u32 r11.1 fun n12 =>
    if 0 ≤ s3 ∧ s3 < (256 : Nat) then
    ((r11.2.store s0 t0 ((u0 + 4) + Int.toNat s3 * 1) [.int .u32 n12]).bind fun m13 =>
      some (.normal, [.s (.int .i64 (IntKind.wrap .i64 (s3 + 1)))], m13)) else none)
  else
  (some (.exit 0, [.s (.ptr s0 t0 u0)], μ)) := by rw [← G63_79]; kernel_rfl
theorem crc_Table_fill_L1_eq (os vs : List AV) (μ : AMem) : crc_Table_fill_L1 os vs μ = (crc_Table_fill_L1_B os vs μ).bind fun r => match r.1 with | .normal => crc_Table_fill_L1 os r.2.1 r.2.2 | _ => some r := loopA_eq _ _ _
theorem crc_Table_fill_eq (p0 q0 o0 : Nat) (μ : AMem) : crc_Table_fill [.s (.ptr p0 q0 o0)] μ =
  seqJ (crc_Table_fill_L1 [.s (.ptr p0 q0 o0)] [.s (.int .i64 0)] μ)
  (fun _ _ => none)
  (fun vs1 m2 =>
    some (.tuple [], m2))
  (fun d5 vs3 m4 =>
    bif Nat.beq 0 d5 then (headK vs3 fun a6 r7 =>
      asS a6 fun x8 =>
      nonNil (.s x8)
      (ptrAdd 3 (.s x8) fun p9 =>
        storeAt 1 m4 p9 (.s (.bool true)) fun m10 =>
        some (.tuple [], m10))) else (none)) := by kernel_rfl

/-! ### (*sync.Once).Do -/
noncomputable def G62 : FuncId → FunA := fun g => bif Nat.beq g 63 then crc_Table_fill else fun _ _ => none
theorem G62_63 : G62 63 = crc_Table_fill := by kernel_rfl
noncomputable def sync_Once_Do : FunA := onceF G62

/-! ### (*overdub/crc.Table).Add -/
noncomputable def G46 : FuncId → FunA := fun g => bif Nat.beq g 63 then crc_Table_fill else bif Nat.beq g 62 then sync_Once_Do else fun _ _ => none
theorem G46_63 : G46 63 = crc_Table_fill := by kernel_rfl
theorem G46_62 : G46 62 = sync_Once_Do := by kernel_rfl
def A46 : Ann := .two (.leaf) (.join [] [0, 1, 2] [] (.two (.leaf) (.two (.leaf) (.leaf))) (.two (.two (.leaf) (.join [(1, .i .u32)] [] [] (.loop [(1, .i .u32), (20, .i .i64)] [0, 18, 19] [0] (.two (.leaf) (.two (.two (.leaf) (.leaf)) (.two (.join [(0, .s), (1, .i .u32), (18, .s), (19, .i .i64), (20, .i .i64)] [] [] (.two (.leaf) (.leaf)) .leaf) (.leaf))))) .leaf)) (.two (.leaf) (.leaf))))
def R46 : Slots := [(6, .i .u32)]
noncomputable def crc_Table_Add : FunA := denF Try.prog G46 Try.f46 A46 R46
noncomputable def crc_Table_Add_L1_B (os vs : List AV) (μ : AMem) : Option Res := joinK [(1, .i .u32), (20, .i .i64)] vs (envO [0, 18, 19] os) fun e => den Try.prog G46 Try.f46.ntmps (cL (cL (cR (cL (cR (cR (bodyOf Try.f46))))))) (aL (aL (aR (aL (aR (aR A46)))))) { ret := R46, exits := [(0, [(1, .i .u32)])] } Res e μ fun ex e μ => some (ex, valsOf (Lv.at { ret := R46, exits := [(0, [(1, .i .u32)])] } [(1, .i .u32), (20, .i .i64)] ex) e, μ)
noncomputable def crc_Table_Add_L1 (os vs : List AV) (μ : AMem) : Option Res := loopA (crc_Table_Add_L1_B os) vs μ
theorem crc_Table_Add_L1_B_eq (s0 t0 u0 : Nat) (s18 : SV) (s19 : Int) (s1 : Int) (s20 : Int) (μ : AMem) : crc_Table_Add_L1_B [.s (.ptr s0 t0 u0), .s s18, .s (.int .i64 s19)] [.s (.int .u32 s1), .s (.int .i64 s20)] μ =
  bif decide (s20 < s19) then
  (indS 1 (.s s18) s20 fun p25 =>
    loadAt μ p25 fun v26 =>
    asI .u8 v26 fun n27 =>
    if 0 ≤ (IntKind.wrap .u8 (BitVec.toNat ((BitVec.ofInt (IntKind.bits .u8) (IntKind.wrap .u8 (Int.fdiv s1 (2 ^ (24 : Nat))))) ^^^ (BitVec.ofInt (IntKind.bits .u8) n27)))) ∧ (IntKind.wrap .u8 (BitVec.toNat ((BitVec.ofInt (IntKind.bits .u8) (IntKind.wrap .u8 (Int.fdiv s1 (2 ^ (24 : Nat))))) ^^^ (BitVec.ofInt (IntKind.bits .u8) n27)))) < (256 : Nat) then
    ((μ.cell s0 t0 ((u0 + 4) + Int.toNat (IntKind.wrap .u8 (BitVec.toNat ((BitVec.ofInt (IntKind.bits .u8) (IntKind.wrap .u8 (Int.fdiv s1 (2 ^ (24 : Nat))))) ^^^ (BitVec.ofInt (IntKind.bits .u8) n27)))) * 1)).bind fun x28 =>
      asI .u32 (.s x28) fun n29 =>
      some (.normal, [.s (.int .u32 (IntKind.wrap .u32 (BitVec.toNat ((BitVec.ofInt (IntKind.bits .u32) (IntKind.wrap .u32 (s1 * 2 ^ (8 : Nat)))) ^^^ (BitVec.ofInt (IntKind.bits .u32) n29))))), .s (.int .i64 (IntKind.wrap .i64 (s20 + 1)))], μ)) else none)
  else
  (some (.exit 0, [.s (.int .u32 s1)], μ)) := by kernel_rfl
theorem crc_Table_Add_L1_eq (os vs : List AV) (μ : AMem) : crc_Table_Add_L1 os vs μ = (crc_Table_Add_L1_B os vs μ).bind fun r => match r.1 with | .normal => crc_Table_Add_L1 os r.2.1 r.2.2 | _ => some r := loopA_eq _ _ _
theorem crc_Table_Add_eq (p0 q0 o0 : Nat) (p1 : Int) (p2 : SV) (μ : AMem) : crc_Table_Add [.s (.ptr p0 q0 o0), .s (.int .u32 p1), .s p2] μ =
  seqJ
  ((lenS (.s p2)).bind fun l1 =>
    bif decide (((l1 : Nat) : Int) > 0) then
    ((sync_Once_Do [.s (.ptr p0 q0 (o0 + 0)), .s (.bound 63 p0 q0 o0)] μ).bind fun r2 =>
      some (.normal, [], r2.2))
    else
    (some (.normal, [], μ)))
  (fun vs3 m4 =>
    (lenS (.s p2)).bind fun l5 =>
    seqJ (crc_Table_Add_L1 [.s (.ptr p0 q0 o0), .s p2, .s (.int .i64 ((l5 : Nat) : Int))] [.s (.int .u32 p1), .s (.int .i64 0)] m4)
    (fun _ _ => none)
    (fun vs6 m7 =>
      headK vs6 fun a11 r12 =>
      asI .u32 a11 fun n13 =>
      some (.s (.int .u32 n13), m7))
    (fun d10 vs8 m9 =>
      bif Nat.beq 0 d10 then (headK vs8 fun a14 r15 =>
        asI .u32 a14 fun n16 =>
        some (.s (.int .u32 n16), m9)) else (none)))
  (fun vs17 m18 =>
    headK vs17 fun a22 r23 =>
    asI .u32 a22 fun n24 =>
    some (.s (.int .u32 n24), m18))
  (fun d21 vs19 m20 =>
    none) := by rw [← G46_62]; kernel_rfl

/-! ### (*overdub/crc.Table).Sum -/
noncomputable def G34 : FuncId → FunA := fun g => bif Nat.beq g 46 then crc_Table_Add else fun _ _ => none
theorem G34_46 : G34 46 = crc_Table_Add := by kernel_rfl
def A34 : Ann := .two (.leaf) (.two (.leaf) (.leaf))
def R34 : Slots := [(4, .i .u32)]
noncomputable def crc_Table_Sum : FunA := denF Try.prog G34 Try.f34 A34 R34
theorem crc_Table_Sum_eq (p0 q0 o0 : Nat) (p1 : SV) (μ : AMem) : crc_Table_Sum [.s (.ptr p0 q0 o0), .s p1] μ =
  (crc_Table_Add [.s (.ptr p0 q0 o0), .s (.int .u32 4294967295), .s p1] μ).bind fun r1 =>
  asI .u32 r1.1 fun n2 =>
  some (.s (.int .u32 n2), r1.2) := by rw [← G34_46]; kernel_rfl

/-! ### (*overdub/block.Coder).sum -/
noncomputable def G25 : FuncId → FunA := fun g => bif Nat.beq g 34 then crc_Table_Sum else fun _ _ => none
theorem G25_34 : G25 34 = crc_Table_Sum := by kernel_rfl
def A25 : Ann := .two (.leaf) (.two (.leaf) (.two (.leaf) (.leaf)))
def R25 : Slots := [(4, .s)]
noncomputable def block_Coder_sum : FunA := denF Try.prog G25 Try.f25 A25 R25
theorem block_Coder_sum_eq (p0 q0 o0 : Nat) (p1 : SV) (μ : AMem) : block_Coder_sum [.s (.ptr p0 q0 o0), .s p1] μ =
  (μ.cell p0 q0 (o0 + 0)).bind fun x1 =>
  (crc_Table_Sum [.s x1, .s p1] μ).bind fun r2 =>
  asI .u32 r2.1 fun n3 =>
  some (.s (.slice (r2.2.next + 11) 0 0 4), ((r2.2.bump 13).set (r2.2.next + 11) (rowObj [.int .u8 (IntKind.wrap .u8 (Int.fdiv n3 (2 ^ (24 : Nat)))), .int .u8 (IntKind.wrap .u8 (Int.fdiv n3 (2 ^ (16 : Nat)))), .int .u8 (IntKind.wrap .u8 (Int.fdiv n3 (2 ^ (8 : Nat)))), .int .u8 (IntKind.wrap .u8 n3)] 1 5 (some 4)))) := by rw [← G25_34]; kernel_rfl

/-! ### (*overdub/block.Coder).Seal -/
noncomputable def G15 : FuncId → FunA := fun g => bif Nat.beq g 24 then atomic_Int64_Add else bif Nat.beq g 25 then block_Coder_sum else fun _ _ => none
theorem G15_24 : G15 24 = atomic_Int64_Add := by kernel_rfl
theorem G15_25 : G15 25 = block_Coder_sum := by kernel_rfl
def A15 : Ann := .two (.leaf) (.two (.two (.leaf) (.two (.two (.leaf) (.leaf)) (.leaf))) (.two (.leaf) (.two (.leaf) (.two (.leaf) (.two (.leaf) (.leaf))))))
def R15 : Slots := [(4, .s), (5, .i .i64)]
noncomputable def block_Coder_Seal : FunA := denF Try.prog G15 Try.f15 A15 R15
theorem block_Coder_Seal_eq (p0 q0 o0 : Nat) (p1 : SV) (μ : AMem) : block_Coder_Seal [.s (.ptr p0 q0 o0), .s p1] μ =
  (lenS (.s p1)).bind fun l1 =>
  bif decide (((l1 : Nat) : Int) > 124) then
  (some (.tuple [.s .nilSlice, .s (.int .i64 4)], μ))
  else
  (if 0 ≤ (124 : Int) ∧ (124 : Int) ≤ (124 : Int) ∧ (124 : Int) ≤ 9223372036854775807 ∧ (1 : Nat) * (124 : Int) ≤ 140737488355328 then
    (copyA 1 ((μ.bump 2).set (μ.next + 0) (rowObj (zerosA [.int .u8 0] (Int.toNat 124)) 1 5 (some (Int.toNat 124)))) (.s (.slice (μ.next + 0) 0 0 (Int.toNat 124))) (.s p1) fun n2 m3 =>
      asI .i64 n2 fun n4 =>
      (atomic_Int64_Add [.s (.ptr p0 q0 (o0 + 1)), .s (.int .i64 1)] m3).bind fun r5 =>
      asI .i64 r5.1 fun n6 =>
      (block_Coder_sum [.s (.ptr p0 q0 o0), .s (.slice (μ.next + 0) 0 0 (Int.toNat 124))] (r5.2.bump 7)).bind fun r7 =>
      asS r7.1 fun x8 =>
      appendA 5 1 1 (r5.2.next + 4) r7.2 (.s (.slice (μ.next + 0) 0 0 (Int.toNat 124))) (.s x8) fun x9 m10 =>
      asS x9 fun x11 =>
      some (.tuple [.s x11, .s (.int .i64 0)], m10)) else none) := by rw [← G15_24, ← G15_25]; kernel_rfl

/-! ### (*overdub/block.Coder).Pack -/
noncomputable def G11 : FuncId → FunA := fun g => bif Nat.beq g 23 then block_right else bif Nat.beq g 21 then frame_Encode else bif Nat.beq g 15 then block_Coder_Seal else fun _ _ => none
theorem G11_23 : G11 23 = block_right := by kernel_rfl
theorem G11_21 : G11 21 = frame_Encode := by kernel_rfl
theorem G11_15 : G11 15 = block_Coder_Seal := by kernel_rfl
def A11 : Ann := .two (.leaf) (.two (.join [(0, .s), (1, .s)] [] [] (.two (.leaf) (.two (.two (.leaf) (.leaf)) (.two (.leaf) (.two (.two (.leaf) (.leaf)) (.leaf))))) .leaf) (.two (.leaf) (.two (.leaf) (.two (.join [(0, .s), (7, .i .i64), (8, .s)] [] [] (.loop [(7, .i .i64), (8, .s)] [0, 1] [1] (.two (.two (.leaf) (.two (.leaf) (.leaf))) (.join [(0, .s), (1, .s), (7, .i .i64), (8, .s)] [] [] (.two (.leaf) (.leaf)) .leaf))) .leaf) (.two (.leaf) (.two (.leaf) (.leaf)))))))
def R11 : Slots := [(4, .s), (5, .i .i64), (6, .i .i64)]
noncomputable def block_Coder_Pack : FunA := denF Try.prog G11 Try.f11 A11 R11
noncomputable def block_Coder_Pack_L1_B (os vs : List AV) (μ : AMem) : Option Res := joinK [(7, .i .i64), (8, .s)] vs (envO [0, 1] os) fun e => den Try.prog G11 Try.f11.ntmps (cL (cL (cL (cR (cR (cR (cR (bodyOf Try.f11)))))))) (aL (aL (aL (aR (aR (aR (aR A11))))))) { ret := R11, exits := [(1, [(0, .s), (7, .i .i64), (8, .s)])] } Res e μ fun ex e μ => some (ex, valsOf (Lv.at { ret := R11, exits := [(1, [(0, .s), (7, .i .i64), (8, .s)])] } [(7, .i .i64), (8, .s)] ex) e, μ)
noncomputable def block_Coder_Pack_L1 (os vs : List AV) (μ : AMem) : Option Res := loopA (block_Coder_Pack_L1_B os) vs μ
theorem block_Coder_Pack_L1_B_eq (s0 t0 u0 : Nat) (s1 : SV) (s7 : Int) (s8 : SV) (μ : AMem) : block_Coder_Pack_L1_B [.s (.ptr s0 t0 u0), .s s1] [.s (.int .i64 s7), .s s8] μ =
  (lenS (.s s8)).bind fun l39 =>
  bif decide (((l39 : Nat) : Int) > 124) then
  (cutS 1 (.s s1) 0 (IntKind.wrap .i64 (s7 - 1)) fun x40 =>
    (frame_Encode [x40] μ).bind fun r41 =>
    extrK 0 r41.1 fun t42 =>
    asS t42 fun x43 =>
    extrK 1 r41.1 fun t44 =>
    asI .i64 t44 fun n45 =>
    some (.normal, [.s (.int .i64 (IntKind.wrap .i64 (s7 - 1))), .s x43], r41.2))
  else
  (some (.exit 1, [.s (.ptr s0 t0 u0), .s (.int .i64 s7), .s s8], μ)) := by rw [← G11_21]; kernel_rfl
theorem block_Coder_Pack_L1_eq (os vs : List AV) (μ : AMem) : block_Coder_Pack_L1 os vs μ = (block_Coder_Pack_L1_B os vs μ).bind fun r => match r.1 with | .normal => block_Coder_Pack_L1 os r.2.1 r.2.2 | _ => some r := loopA_eq _ _ _
theorem block_Coder_Pack_eq (p0 q0 o0 : Nat) (p1 : SV) (μ : AMem) : block_Coder_Pack [.s (.ptr p0 q0 o0), .s p1] μ =
  (lenS (.s p1)).bind fun l1 =>
  bif (((l1 : Nat) : Int) == 0) then
  (some (.tuple [.s .nilSlice, .s (.int .i64 0), .s (.int .i64 4)], μ))
  else
  ((block_right [.s p1] μ).bind fun r2 =>
    asB r2.1 fun b3 =>
    bif (!b3) then
    (some (.tuple [.s .nilSlice, .s (.int .i64 0), .s (.int .i64 8)], r2.2))
    else
    ((lenS (.s p1)).bind fun l4 =>
      cutS 1 (.s p1) 0 (if 64 < ((l4 : Nat) : Int) then 64 else ((l4 : Nat) : Int)) fun x5 =>
      (frame_Encode [x5] r2.2).bind fun r6 =>
      extrK 0 r6.1 fun t7 =>
      asS t7 fun x8 =>
      extrK 1 r6.1 fun t9 =>
      asI .i64 t9 fun n10 =>
      seqJ (block_Coder_Pack_L1 [.s (.ptr p0 q0 o0), .s p1] [.s (.int .i64 (if 64 < ((l4 : Nat) : Int) then 64 else ((l4 : Nat) : Int))), .s x8] r6.2)
      (fun _ _ => none)
      (fun vs11 m12 =>
        headK vs11 fun a16 r17 =>
        asS a16 fun x18 =>
        headK r17 fun a19 r20 =>
        asI .i64 a19 fun n21 =>
        headK r20 fun a22 r23 =>
        asI .i64 a22 fun n24 =>
        some (.tuple [.s x18, .s (.int .i64 n21), .s (.int .i64 n24)], m12))
      (fun d15 vs13 m14 =>
        bif Nat.beq 1 d15 then (headK vs13 fun a25 r26 =>
          asS a25 fun x27 =>
          headK r26 fun a28 r29 =>
          asI .i64 a28 fun n30 =>
          headK r29 fun a31 r32 =>
          asS a31 fun x33 =>
          (block_Coder_Seal [.s x27, .s x33] m14).bind fun r34 =>
          extrK 0 r34.1 fun t35 =>
          asS t35 fun x36 =>
          extrK 1 r34.1 fun t37 =>
          asI .i64 t37 fun n38 =>
          some (.tuple [.s x36, .s (.int .i64 n30), .s (.int .i64 n38)], r34.2)) else (none)))) := by rw [← G11_23, ← G11_21, ← G11_15]; kernel_rfl

/-! ### (*overdub/block.Coder).All -/
noncomputable def G10 : FuncId → FunA := fun g => bif Nat.beq g 23 then block_right else bif Nat.beq g 11 then block_Coder_Pack else fun _ _ => none
theorem G10_23 : G10 23 = block_right := by kernel_rfl
theorem G10_11 : G10 11 = block_Coder_Pack := by kernel_rfl
def A10 : Ann := .two (.leaf) (.two (.two (.leaf) (.two (.two (.leaf) (.leaf)) (.leaf))) (.two (.leaf) (.two (.leaf) (.two (.join [(7, .s), (8, .s)] [] [] (.loop [(1, .s), (7, .s), (8, .s)] [0] [0] (.two (.two (.leaf) (.two (.leaf) (.leaf))) (.join [(0, .s), (1, .s), (7, .s), (8, .s)] [] [] (.two (.leaf) (.two (.two (.leaf) (.two (.two (.leaf) (.leaf)) (.leaf))) (.ord [0, 1, 2, 3, 4, 5, 6, 7, 8, 9, 10, 11, 12, 13]))) .leaf))) .leaf) (.two (.leaf) (.leaf))))))
def R10 : Slots := [(4, .s), (5, .s), (6, .i .i64)]
noncomputable def block_Coder_All : FunA := denF Try.prog G10 Try.f10 A10 R10
noncomputable def block_Coder_All_L1_B (os vs : List AV) (μ : AMem) : Option Res := joinK [(1, .s), (7, .s), (8, .s)] vs (envO [0] os) fun e => den Try.prog G10 Try.f10.ntmps (cL (cL (cL (cR (cR (cR (cR (bodyOf Try.f10)))))))) (aL (aL (aL (aR (aR (aR (aR A10))))))) { ret := R10, exits := [(0, [(7, .s), (8, .s)])] } Res e μ fun ex e μ => some (ex, valsOf (Lv.at { ret := R10, exits := [(0, [(7, .s), (8, .s)])] } [(1, .s), (7, .s), (8, .s)] ex) e, μ)
noncomputable def block_Coder_All_L1 (os vs : List AV) (μ : AMem) : Option Res := loopA (block_Coder_All_L1_B os) vs μ
theorem block_Coder_All_L1_B_eq (s0 t0 u0 : Nat) (s1 : SV) (s7 : SV) (s8 : SV) (μ : AMem) : block_Coder_All_L1_B [.s (.ptr s0 t0 u0)] [.s s1, .s s7, .s s8] μ =
  (lenS (.s s1)).bind fun l23 =>
  bif decide (((l23 : Nat) : Int) > 0) then
  ((block_Coder_Pack [.s (.ptr s0 t0 u0), .s s1] μ).bind fun r24 =>
    extrK 0 r24.1 fun t25 =>
    asS t25 fun x26 =>
    extrK 1 r24.1 fun t27 =>
    asI .i64 t27 fun n28 =>
    extrK 2 r24.1 fun t29 =>
    asI .i64 t29 fun n30 =>
    bif (n30 != 0) then
    (some (.ret, [.s .nilSlice, .s .nilSlice, .s (.int .i64 n30)], r24.2))
    else
    (checkA ((r24.2.bump 14).obj (r24.2.next + 2) = none)
      (appendA 32 1 24 (r24.2.next + 3) ((r24.2.bump 14).set (r24.2.next + 2) (rowObj [x26] 1 32 (some 1))) (.s s7) (.s (.slice (r24.2.next + 2) 0 0 1)) fun x31 m32 =>
        asS x31 fun x33 =>
        checkA (m32.obj (r24.2.next + 6) = none)
        (appendA 3 1 8 (r24.2.next + 7) (m32.set (r24.2.next + 6) (rowObj [.int .i64 n28] 1 3 (some 1))) (.s s8) (.s (.slice (r24.2.next + 6) 0 0 1)) fun x34 m35 =>
          asS x34 fun x36 =>
          (lenS (.s s1)).bind fun l37 =>
          cutS 1 (.s s1) n28 ((l37 : Nat) : Int) fun x38 =>
          some (.normal, [x38, .s x33, .s x36], m35)))))
  else
  (some (.exit 0, [.s s7, .s s8], μ)) := by rw [← G10_11]; kernel_rfl
theorem block_Coder_All_L1_eq (os vs : List AV) (μ : AMem) : block_Coder_All_L1 os vs μ = (block_Coder_All_L1_B os vs μ).bind fun r => match r.1 with | .normal => block_Coder_All_L1 os r.2.1 r.2.2 | _ => some r := loopA_eq _ _ _
theorem block_Coder_All_eq (p0 q0 o0 : Nat) (p1 : SV) (μ : AMem) : block_Coder_All [.s (.ptr p0 q0 o0), .s p1] μ =
  (block_right [.s p1] μ).bind fun r1 =>
  asB r1.1 fun b2 =>
  bif (!b2) then
  (some (.tuple [.s .nilSlice, .s .nilSlice, .s (.int .i64 8)], r1.2))
  else
  (seqJ (block_Coder_All_L1 [.s (.ptr p0 q0 o0)] [.s p1, .s .nilSlice, .s .nilSlice] r1.2)
    (fun _ _ => none)
    (fun vs3 m4 =>
      headK vs3 fun a8 r9 =>
      asS a8 fun x10 =>
      headK r9 fun a11 r12 =>
      asS a11 fun x13 =>
      headK r12 fun a14 r15 =>
      asI .i64 a14 fun n16 =>
      some (.tuple [.s x10, .s x13, .s (.int .i64 n16)], m4))
    (fun d7 vs5 m6 =>
      bif Nat.beq 0 d7 then (headK vs5 fun a17 r18 =>
        asS a17 fun x19 =>
        headK r18 fun a20 r21 =>
        asS a20 fun x22 =>
        some (.tuple [.s x19, .s x22, .s (.int .i64 0)], m6)) else (none))) := by rw [← G10_23]; kernel_rfl

/-! ### overdub/overdubkeep.Same[byte] -/
noncomputable def G12 : FuncId → FunA := fun _ _ _ => none
def A12 : Ann := .two (.leaf) (.two (.two (.leaf) (.two (.two (.leaf) (.leaf)) (.leaf))) (.two (.two (.leaf) (.join [] [] [] (.loop [(5, .i .i64)] [0, 1] [0] (.two (.two (.leaf) (.two (.leaf) (.leaf))) (.two (.join [(0, .s), (1, .s), (5, .i .i64)] [] [] (.two (.ord [0, 1, 2, 3, 4, 5, 6, 7, 8]) (.two (.two (.leaf) (.leaf)) (.leaf))) .leaf) (.leaf)))) .leaf)) (.two (.leaf) (.leaf))))
def R12 : Slots := [(4, .b)]
noncomputable def overdubkeep_Same_byte : FunA := denF Try.prog G12 Try.f12 A12 R12
noncomputable def overdubkeep_Same_byte_L1_B (os vs : List AV) (μ : AMem) : Option Res := joinK [(5, .i .i64)] vs (envO [0, 1] os) fun e => den Try.prog G12 Try.f12.ntmps (cL (cL (cR (cL (cR (cR (bodyOf Try.f12))))))) (aL (aL (aR (aL (aR (aR A12)))))) { ret := R12, exits := [(0, [])] } Res e μ fun ex e μ => some (ex, valsOf (Lv.at { ret := R12, exits := [(0, [])] } [(5, .i .i64)] ex) e, μ)
noncomputable def overdubkeep_Same_byte_L1 (os vs : List AV) (μ : AMem) : Option Res := loopA (overdubkeep_Same_byte_L1_B os) vs μ
theorem overdubkeep_Same_byte_L1_B_eq (s0 : SV) (s1 : SV) (s5 : Int) (μ : AMem) : overdubkeep_Same_byte_L1_B [.s s0, .s s1] [.s (.int .i64 s5)] μ =
  (lenS (.s s0)).bind fun l11 =>
  bif decide (s5 < ((l11 : Nat) : Int)) then
  (indS 1 (.s s0) s5 fun p12 =>
    loadAt μ p12 fun v13 =>
    asI .u8 v13 fun n14 =>
    indS 1 (.s s1) s5 fun p15 =>
    loadAt μ p15 fun v16 =>
    asI .u8 v16 fun n17 =>
    bif (n14 != n17) then
    (some (.ret, [.s (.bool false)], μ))
    else
    (some (.normal, [.s (.int .i64 (IntKind.wrap .i64 (s5 + 1)))], μ)))
  else
  (some (.exit 0, [], μ)) := by kernel_rfl
theorem overdubkeep_Same_byte_L1_eq (os vs : List AV) (μ : AMem) : overdubkeep_Same_byte_L1 os vs μ = (overdubkeep_Same_byte_L1_B os vs μ).bind fun r => match r.1 with | .normal => overdubkeep_Same_byte_L1 os r.2.1 r.2.2 | _ => some r := loopA_eq _ _ _
theorem overdubkeep_Same_byte_eq (p0 : SV) (p1 : SV) (μ : AMem) : overdubkeep_Same_byte [.s p0, .s p1] μ =
  (lenS (.s p0)).bind fun l1 =>
  (lenS (.s p1)).bind fun l2 =>
  bif (((l1 : Nat) : Int) != ((l2 : Nat) : Int)) then
  (some (.s (.bool false), μ))
  else
  (seqJ (overdubkeep_Same_byte_L1 [.s p0, .s p1] [.s (.int .i64 0)] μ)
    (fun _ _ => none)
    (fun vs3 m4 =>
      headK vs3 fun a8 r9 =>
      asB a8 fun b10 =>
      some (.s (.bool b10), m4))
    (fun d7 vs5 m6 =>
      bif Nat.beq 0 d7 then (some (.s (.bool true), m6)) else (none))) := by kernel_rfl

/-! ### overdub/overdublaw09.wakes -/
noncomputable def G13 : FuncId → FunA := fun g => bif Nat.beq g 9 then block_New else bif Nat.beq g 10 then block_Coder_All else bif Nat.beq g 15 then block_Coder_Seal else fun _ _ => none
theorem G13_9 : G13 9 = block_New := by kernel_rfl
theorem G13_10 : G13 10 = block_Coder_All := by kernel_rfl
theorem G13_15 : G13 15 = block_Coder_Seal := by kernel_rfl
def A13 : Ann := .two (.leaf) (.two (.leaf) (.two (.two (.leaf) (.two (.two (.leaf) (.leaf)) (.leaf))) (.two (.leaf) (.two (.leaf) (.two (.leaf) (.leaf))))))
def R13 : Slots := [(0, .b)]
noncomputable def overdublaw09_wakes : FunA := denF Try.prog G13 Try.f13 A13 R13
theorem overdublaw09_wakes_eq  (μ : AMem) : overdublaw09_wakes [] μ =
  (block_New [] μ).bind fun r1 =>
  asS r1.1 fun x2 =>
  (isNil (.s x2)).bind fun b3 =>
  bif b3 then
  (some (.s (.bool false), r1.2))
  else
  ((block_Coder_All [.s x2, .s .nilSlice] r1.2).bind fun r4 =>
    extrK 0 r4.1 fun t5 =>
    asS t5 fun x6 =>
    extrK 1 r4.1 fun t7 =>
    asS t7 fun x8 =>
    extrK 2 r4.1 fun t9 =>
    asI .i64 t9 fun n10 =>
    (block_Coder_Seal [.s x2, .s .nilSlice] r4.2).bind fun r11 =>
    extrK 0 r11.1 fun t12 =>
    asS t12 fun x13 =>
    extrK 1 r11.1 fun t14 =>
    asI .i64 t14 fun n15 =>
    bif (n10 == 0) then
    ((lenS (.s x6)).bind fun l16 =>
      (lenS (.s x8)).bind fun l17 =>
      bif ((IntKind.wrap .i64 (((l16 : Nat) : Int) + ((l17 : Nat) : Int))) == 0) then
      (bif (n15 == 0) then
        ((lenS (.s x13)).bind fun l18 =>
          some (.s (.bool (((l18 : Nat) : Int) == 128)), r11.2))
        else
        (some (.s (.bool false), r11.2)))
      else
      (some (.s (.bool false), r11.2)))
    else
    (some (.s (.bool false), r11.2))) := by rw [← G13_9, ← G13_10, ← G13_15]; kernel_rfl

/-! ### overdub/overdublaw09.BlockRow -/
noncomputable def G3 : FuncId → FunA := fun g => bif Nat.beq g 7 then overdublaw08_Tone else bif Nat.beq g 8 then overdubkeep_Samples else bif Nat.beq g 9 then block_New else bif Nat.beq g 10 then block_Coder_All else bif Nat.beq g 11 then block_Coder_Pack else bif Nat.beq g 12 then overdubkeep_Same_byte else bif Nat.beq g 13 then overdublaw09_wakes else fun _ _ => none
theorem G3_7 : G3 7 = overdublaw08_Tone := by kernel_rfl
theorem G3_8 : G3 8 = overdubkeep_Samples := by kernel_rfl
theorem G3_9 : G3 9 = block_New := by kernel_rfl
theorem G3_10 : G3 10 = block_Coder_All := by kernel_rfl
theorem G3_11 : G3 11 = block_Coder_Pack := by kernel_rfl
theorem G3_12 : G3 12 = overdubkeep_Same_byte := by kernel_rfl
theorem G3_13 : G3 13 = overdublaw09_wakes := by kernel_rfl
def A3 : Ann := .two (.leaf) (.two (.leaf) (.two (.two (.leaf) (.join [(5, .s)] [] [] (.loop [(5, .s), (6, .i .i64)] [0, 1] [0] (.two (.join [(23, .b)] [0, 1, 5, 6] [] (.leaf) (.two (.leaf) (.leaf))) (.two (.join [(0, .s), (1, .i .i64), (5, .s), (6, .i .i64)] [] [] (.two (.leaf) (.leaf)) .leaf) (.leaf)))) .leaf)) (.two (.leaf) (.two (.two (.leaf) (.two (.two (.leaf) (.leaf)) (.leaf))) (.two (.leaf) (.two (.join [(64, .b)] [5, 7, 8, 9] [] (.leaf) (.two (.two (.leaf) (.leaf)) (.leaf))) (.two (.leaf) (.two (.two (.leaf) (.join [(11, .s)] [] [] (.loop [(11, .s), (68, .i .i64)] [7, 8, 9, 67] [2] (.two (.leaf) (.two (.two (.leaf) (.leaf)) (.two (.join [(7, .s), (8, .s), (9, .s), (11, .s), (67, .i .i64), (68, .i .i64)] [] [] (.two (.leaf) (.two (.leaf) (.two (.join [(102, .b)] [7, 8, 9, 11, 14, 67, 68] [] (.leaf) (.two (.two (.leaf) (.leaf)) (.leaf))) (.leaf)))) .leaf) (.leaf))))) .leaf)) (.two (.leaf) (.leaf))))))))))
def R3 : Slots := [(4, .b)]
noncomputable def overdublaw09_BlockRow : FunA := denF Try.prog G3 Try.f3 A3 R3
noncomputable def overdublaw09_BlockRow_L2_B (os vs : List AV) (μ : AMem) : Option Res := joinK [(11, .s), (68, .i .i64)] vs (envO [7, 8, 9, 67] os) fun e => den Try.prog G3 Try.f3.ntmps (cL (cL (cR (cL (cR (cR (cR (cR (cR (cR (cR (cR (bodyOf Try.f3))))))))))))) (aL (aL (aR (aL (aR (aR (aR (aR (aR (aR (aR (aR A3)))))))))))) { ret := R3, exits := [(2, [(11, .s)])] } Res e μ fun ex e μ => some (ex, valsOf (Lv.at { ret := R3, exits := [(2, [(11, .s)])] } [(11, .s), (68, .i .i64)] ex) e, μ)
noncomputable def overdublaw09_BlockRow_L2 (os vs : List AV) (μ : AMem) : Option Res := loopA (overdublaw09_BlockRow_L2_B os) vs μ
noncomputable def overdublaw09_BlockRow_L1_B (os vs : List AV) (μ : AMem) : Option Res := joinK [(5, .s), (6, .i .i64)] vs (envO [0, 1] os) fun e => den Try.prog G3 Try.f3.ntmps (cL (cL (cR (cL (cR (cR (bodyOf Try.f3))))))) (aL (aL (aR (aL (aR (aR A3)))))) { ret := R3, exits := [(0, [(5, .s)])] } Res e μ fun ex e μ => some (ex, valsOf (Lv.at { ret := R3, exits := [(0, [(5, .s)])] } [(5, .s), (6, .i .i64)] ex) e, μ)
noncomputable def overdublaw09_BlockRow_L1 (os vs : List AV) (μ : AMem) : Option Res := loopA (overdublaw09_BlockRow_L1_B os) vs μ
theorem overdublaw09_BlockRow_L2_B_eq (s7 : SV) (s8 : SV) (s9 : SV) (s67 : Int) (s11 : SV) (s68 : Int) (μ : AMem) : overdublaw09_BlockRow_L2_B [.s s7, .s s8, .s s9, .s (.int .i64 s67)] [.s s11, .s (.int .i64 s68)] μ =
  bif decide (s68 < s67) then
  ((block_Coder_Pack [.s s7, .s s11] μ).bind fun r82 =>
    extrK 0 r82.1 fun t83 =>
    asS t83 fun x84 =>
    extrK 1 r82.1 fun t85 =>
    asI .i64 t85 fun n86 =>
    extrK 2 r82.1 fun t87 =>
    asI .i64 t87 fun n88 =>
    seqJ
    (bif !(n88 != 0) then
      (indS 1 (.s s9) s68 fun p89 =>
        loadAt r82.2 p89 fun v90 =>
        asI .i64 v90 fun n91 =>
        bif !(n86 != n91) then
        ((lenS (.s s11)).bind fun l92 =>
          bif !(decide (n86 > ((l92 : Nat) : Int))) then
          (indS 1 (.s s8) s68 fun p93 =>
            loadAt r82.2 p93 fun v94 =>
            asS v94 fun x95 =>
            (overdubkeep_Same_byte [.s x84, .s x95] r82.2).bind fun r96 =>
            asB r96.1 fun b97 =>
            some (.normal, [.s (.bool (!b97))], r96.2))
          else
          (some (.normal, [.s (.bool true)], r82.2)))
        else
        (some (.normal, [.s (.bool true)], r82.2)))
      else
      (some (.normal, [.s (.bool true)], r82.2)))
    (fun vs98 m99 =>
      headK vs98 fun a100 r101 =>
      asB a100 fun b102 =>
      bif b102 then
      (some (.ret, [.s (.bool false)], m99))
      else
      ((lenS (.s s11)).bind fun l103 =>
        cutS 1 (.s s11) n86 ((l103 : Nat) : Int) fun x104 =>
        some (.normal, [x104, .s (.int .i64 (IntKind.wrap .i64 (s68 + 1)))], m99)))
    (fun vs105 m106 =>
      headK vs105 fun a110 r111 =>
      asB a110 fun b112 =>
      some (.ret, [.s (.bool b112)], m106))
    (fun d109 vs107 m108 =>
      none))
  else
  (some (.exit 2, [.s s11], μ)) := by rw [← G3_11, ← G3_12]; kernel_rfl
theorem overdublaw09_BlockRow_L2_eq (os vs : List AV) (μ : AMem) : overdublaw09_BlockRow_L2 os vs μ = (overdublaw09_BlockRow_L2_B os vs μ).bind fun r => match r.1 with | .normal => overdublaw09_BlockRow_L2 os r.2.1 r.2.2 | _ => some r := loopA_eq _ _ _
theorem overdublaw09_BlockRow_L1_B_eq (s0 : SV) (s1 : Int) (s5 : SV) (s6 : Int) (μ : AMem) : overdublaw09_BlockRow_L1_B [.s s0, .s (.int .i64 s1)] [.s s5, .s (.int .i64 s6)] μ =
  seqJ
  ((lenS (.s s0)).bind fun l52 =>
    bif decide (s6 < ((l52 : Nat) : Int)) then
    (some (.normal, [.s (.bool (decide (s6 < 2)))], μ))
    else
    (some (.normal, [.s (.bool false)], μ)))
  (fun vs53 m54 =>
    headK vs53 fun a55 r56 =>
    asB a55 fun b57 =>
    bif b57 then
    (indS 1 (.s s0) s6 fun p58 =>
      loadAt (m54.bump 14) p58 fun v59 =>
      asS v59 fun x60 =>
      (overdublaw08_Tone [.s x60, .s (.int .i64 s1), .s (.int .i64 (IntKind.wrap .i64 (s6 + s1))), .s (.int .i64 (IntKind.wrap .i64 (s6 * 100)))] (m54.bump 14)).bind fun r61 =>
      asS r61.1 fun x62 =>
      appendA 3 1 8 (m54.next + 12) r61.2 (.s s5) (.s x62) fun x63 m64 =>
      asS x63 fun x65 =>
      indS 1 (.s s0) s6 fun p66 =>
      loadAt (m64.bump 8) p66 fun v67 =>
      asS v67 fun x68 =>
      (overdubkeep_Samples [.s x68, .s (.int .i64 50), .s (.bool false)] (m64.bump 8)).bind fun r69 =>
      asS r69.1 fun x70 =>
      appendA 3 1 8 (m64.next + 6) r69.2 (.s x65) (.s x70) fun x71 m72 =>
      asS x71 fun x73 =>
      some (.normal, [.s x73, .s (.int .i64 (IntKind.wrap .i64 (s6 + 1)))], m72))
    else
    (some (.exit 0, [.s s5], m54)))
  (fun vs74 m75 =>
    headK vs74 fun a79 r80 =>
    asB a79 fun b81 =>
    some (.ret, [.s (.bool b81)], m75))
  (fun d78 vs76 m77 =>
    none) := by rw [← G3_7, ← G3_8]; kernel_rfl
theorem overdublaw09_BlockRow_L1_eq (os vs : List AV) (μ : AMem) : overdublaw09_BlockRow_L1 os vs μ = (overdublaw09_BlockRow_L1_B os vs μ).bind fun r => match r.1 with | .normal => overdublaw09_BlockRow_L1 os r.2.1 r.2.2 | _ => some r := loopA_eq _ _ _
theorem overdublaw09_BlockRow_eq (p0 : SV) (p1 : Int) (μ : AMem) : overdublaw09_BlockRow [.s p0, .s (.int .i64 p1)] μ =
  seqJ (overdublaw09_BlockRow_L1 [.s p0, .s (.int .i64 p1)] [.s .nilSlice, .s (.int .i64 0)] μ)
  (fun _ _ => none)
  (fun vs1 m2 =>
    headK vs1 fun a6 r7 =>
    asB a6 fun b8 =>
    some (.s (.bool b8), m2))
  (fun d5 vs3 m4 =>
    bif Nat.beq 0 d5 then (headK vs3 fun a9 r10 =>
      asS a9 fun x11 =>
      (block_New [] m4).bind fun r12 =>
      asS r12.1 fun x13 =>
      (isNil (.s x13)).bind fun b14 =>
      bif b14 then
      (some (.s (.bool false), r12.2))
      else
      ((block_Coder_All [.s x13, .s x11] r12.2).bind fun r15 =>
        extrK 0 r15.1 fun t16 =>
        asS t16 fun x17 =>
        extrK 1 r15.1 fun t18 =>
        asS t18 fun x19 =>
        extrK 2 r15.1 fun t20 =>
        asI .i64 t20 fun n21 =>
        seqJ
        (bif !(n21 != 0) then
          ((lenS (.s x17)).bind fun l22 =>
            (lenS (.s x19)).bind fun l23 =>
            some (.normal, [.s (.bool (((l22 : Nat) : Int) != ((l23 : Nat) : Int)))], r15.2))
          else
          (some (.normal, [.s (.bool true)], r15.2)))
        (fun vs24 m25 =>
          headK vs24 fun a26 r27 =>
          asB a26 fun b28 =>
          bif b28 then
          (some (.s (.bool false), m25))
          else
          ((lenS (.s x17)).bind fun l29 =>
            seqJ (overdublaw09_BlockRow_L2 [.s x13, .s x17, .s x19, .s (.int .i64 ((l29 : Nat) : Int))] [.s x11, .s (.int .i64 0)] m25)
            (fun _ _ => none)
            (fun vs30 m31 =>
              headK vs30 fun a35 r36 =>
              asB a35 fun b37 =>
              some (.s (.bool b37), m31))
            (fun d34 vs32 m33 =>
              bif Nat.beq 2 d34 then (headK vs32 fun a38 r39 =>
                asS a38 fun x40 =>
                (lenS (.s x40)).bind fun l41 =>
                bif (((l41 : Nat) : Int) == 0) then
                ((overdublaw09_wakes [] m33).bind fun r42 =>
                  asB r42.1 fun b43 =>
                  some (.s (.bool b43), r42.2))
                else
                (some (.s (.bool false), m33))) else (none))))
        (fun vs44 m45 =>
          headK vs44 fun a49 r50 =>
          asB a49 fun b51 =>
          some (.s (.bool b51), m45))
        (fun d48 vs46 m47 =>
          none))) else (none)) := by rw [← G3_9, ← G3_10, ← G3_13]; kernel_rfl

/-! ### overdub/overdubkeep.Cut[byte] -/
noncomputable def G14 : FuncId → FunA := fun _ _ _ => none
def A14 : Ann := .two (.leaf) (.two (.leaf) (.leaf))
def R14 : Slots := [(4, .s)]
noncomputable def overdubkeep_Cut_byte : FunA := denF Try.prog G14 Try.f14 A14 R14
theorem overdubkeep_Cut_byte_eq (p0 : SV) (p1 : Int) (μ : AMem) : overdubkeep_Cut_byte [.s p0, .s (.int .i64 p1)] μ =
  (lenS (.s p0)).bind fun l1 =>
  cutS 1 (.s p0) 0 (if p1 < ((l1 : Nat) : Int) then p1 else ((l1 : Nat) : Int)) fun x2 =>
  some (x2, μ) := by kernel_rfl

/-! ### bytes.Equal -/
noncomputable def G35 : FuncId → FunA := fun _ _ _ => none
def A35 : Ann := .two (.leaf) (.two (.leaf) (.leaf))
def R35 : Slots := [(4, .b)]
noncomputable def bytes_Equal : FunA := denF Try.prog G35 Try.f35 A35 R35
theorem bytes_Equal_eq (p0 : SV) (p1 : SV) (μ : AMem) : bytes_Equal [.s p0, .s p1] μ =
  strA μ (.s p0) fun x1 =>
  asS x1 fun x2 =>
  strA μ (.s p1) fun x3 =>
  asS x3 fun x4 =>
  asT (.s x2) fun t5 =>
  asT (.s x4) fun t6 =>
  some (.s (.bool (t5 == t6)), μ) := by kernel_rfl

/-! ### (*overdub/block.Coder).unseal -/
noncomputable def G26 : FuncId → FunA := fun g => bif Nat.beq g 25 then block_Coder_sum else bif Nat.beq g 35 then bytes_Equal else fun _ _ => none
theorem G26_25 : G26 25 = block_Coder_sum := by kernel_rfl
theorem G26_35 : G26 35 = bytes_Equal := by kernel_rfl
def A26 : Ann := .two (.leaf) (.two (.join [(18, .b)] [1] [] (.ord [0, 1, 2, 3, 4, 5, 6, 7, 8, 9, 10, 11, 12]) (.two (.two (.leaf) (.leaf)) (.leaf))) (.two (.leaf) (.leaf)))
def R26 : Slots := [(4, .s), (5, .i .i64)]
noncomputable def block_Coder_unseal : FunA := denF Try.prog G26 Try.f26 A26 R26
theorem block_Coder_unseal_eq (p0 q0 o0 : Nat) (p1 : SV) (μ : AMem) : block_Coder_unseal [.s (.ptr p0 q0 o0), .s p1] μ =
  seqJ
  ((lenS (.s p1)).bind fun l1 =>
    bif !(((l1 : Nat) : Int) != 128) then
    (cutS 1 (.s p1) 0 124 fun x2 =>
      (block_Coder_sum [.s (.ptr p0 q0 o0), x2] μ).bind fun r3 =>
      asS r3.1 fun x4 =>
      (lenS (.s p1)).bind fun l5 =>
      cutS 1 (.s p1) 124 ((l5 : Nat) : Int) fun x6 =>
      (bytes_Equal [.s x4, x6] r3.2).bind fun r7 =>
      asB r7.1 fun b8 =>
      some (.normal, [.s (.bool (!b8))], r7.2))
    else
    (some (.normal, [.s (.bool true)], μ)))
  (fun vs9 m10 =>
    headK vs9 fun a11 r12 =>
    asB a11 fun b13 =>
    bif b13 then
    (some (.tuple [.s .nilSlice, .s (.int .i64 2)], m10))
    else
    (cutS 1 (.s p1) 0 124 fun x14 =>
      appendA 5 1 1 (m10.next + 2) (m10.bump 5) (.s .nilSlice) x14 fun x15 m16 =>
      asS x15 fun x17 =>
      some (.tuple [.s x17, .s (.int .i64 0)], m16)))
  (fun vs18 m19 =>
    headK vs18 fun a23 r24 =>
    asS a23 fun x25 =>
    headK r24 fun a26 r27 =>
    asI .i64 a26 fun n28 =>
    some (.tuple [.s x25, .s (.int .i64 n28)], m19))
  (fun d22 vs20 m21 =>
    none) := by rw [← G26_25, ← G26_35]; kernel_rfl

/-! ### (*overdub/block.Coder).Unseal -/
noncomputable def G16 : FuncId → FunA := fun g => bif Nat.beq g 26 then block_Coder_unseal else bif Nat.beq g 24 then atomic_Int64_Add else fun _ _ => none
theorem G16_26 : G16 26 = block_Coder_unseal := by kernel_rfl
theorem G16_24 : G16 24 = atomic_Int64_Add := by kernel_rfl
def A16 : Ann := .two (.leaf) (.two (.leaf) (.join [] [6, 7] [] (.two (.leaf) (.two (.leaf) (.leaf))) (.two (.leaf) (.leaf))))
def R16 : Slots := [(4, .s), (5, .i .i64)]
noncomputable def block_Coder_Unseal : FunA := denF Try.prog G16 Try.f16 A16 R16
theorem block_Coder_Unseal_eq (p0 q0 o0 : Nat) (p1 : SV) (μ : AMem) : block_Coder_Unseal [.s (.ptr p0 q0 o0), .s p1] μ =
  (block_Coder_unseal [.s (.ptr p0 q0 o0), .s p1] μ).bind fun r1 =>
  extrK 0 r1.1 fun t2 =>
  asS t2 fun x3 =>
  extrK 1 r1.1 fun t4 =>
  asI .i64 t4 fun n5 =>
  seqJ
  (bif (n5 == 0) then
    ((atomic_Int64_Add [.s (.ptr p0 q0 (o0 + 2)), .s (.int .i64 1)] r1.2).bind fun r6 =>
      asI .i64 r6.1 fun n7 =>
      some (.normal, [], r6.2))
    else
    (some (.normal, [], r1.2)))
  (fun vs8 m9 =>
    some (.tuple [.s x3, .s (.int .i64 n5)], m9))
  (fun vs10 m11 =>
    headK vs10 fun a15 r16 =>
    asS a15 fun x17 =>
    headK r16 fun a18 r19 =>
    asI .i64 a18 fun n20 =>
    some (.tuple [.s x17, .s (.int .i64 n20)], m11))
  (fun d14 vs12 m13 =>
    none) := by rw [← G16_26, ← G16_24]; kernel_rfl

/-! ### overdub/overdubkeep.Copy[byte] -/
noncomputable def G18 : FuncId → FunA := fun _ _ _ => none
def A18 : Ann := .two (.leaf) (.two (.leaf) (.leaf))
def R18 : Slots := [(2, .s)]
noncomputable def overdubkeep_Copy_byte : FunA := denF Try.prog G18 Try.f18 A18 R18
theorem overdubkeep_Copy_byte_eq (p0 : SV) (μ : AMem) : overdubkeep_Copy_byte [.s p0] μ =
  appendA 5 1 1 (μ.next + 1) (μ.bump 3) (.s .nilSlice) (.s p0) fun x1 m2 =>
  asS x1 fun x3 =>
  some (.s x3, m2) := by kernel_rfl

/-! ### overdub/overdublaw09.BlockUnseals -/
noncomputable def G4 : FuncId → FunA := fun g => bif Nat.beq g 14 then overdubkeep_Cut_byte else bif Nat.beq g 9 then block_New else bif Nat.beq g 15 then block_Coder_Seal else bif Nat.beq g 16 then block_Coder_Unseal else bif Nat.beq g 12 then overdubkeep_Same_byte else bif Nat.beq g 17 then overdubkeep_Within else bif Nat.beq g 18 then overdubkeep_Copy_byte else bif Nat.beq g 13 then overdublaw09_wakes else fun _ _ => none
theorem G4_14 : G4 14 = overdubkeep_Cut_byte := by kernel_rfl
theorem G4_9 : G4 9 = block_New := by kernel_rfl
theorem G4_15 : G4 15 = block_Coder_Seal := by kernel_rfl
theorem G4_16 : G4 16 = block_Coder_Unseal := by kernel_rfl
theorem G4_12 : G4 12 = overdubkeep_Same_byte := by kernel_rfl
theorem G4_17 : G4 17 = overdubkeep_Within := by kernel_rfl
theorem G4_18 : G4 18 = overdubkeep_Copy_byte := by kernel_rfl
theorem G4_13 : G4 13 = overdublaw09_wakes := by kernel_rfl
def A4 : Ann := .two (.leaf) (.two (.leaf) (.two (.leaf) (.two (.two (.leaf) (.two (.two (.leaf) (.leaf)) (.leaf))) (.two (.leaf) (.two (.leaf) (.two (.join [(58, .b)] [0, 1, 5, 6, 8] [] (.leaf) (.two (.two (.leaf) (.leaf)) (.leaf))) (.two (.two (.leaf) (.join [(1, .i .i64), (5, .s), (6, .s)] [] [] (.loop [(10, .i .i64)] [1, 5, 6, 8] [0] (.two (.two (.leaf) (.two (.leaf) (.leaf))) (.two (.join [(1, .i .i64), (5, .s), (6, .s), (8, .s), (10, .i .i64)] [] [] (.two (.leaf) (.two (.two (.leaf) (.leaf)) (.leaf))) .leaf) (.leaf)))) .leaf)) (.two (.leaf) (.two (.leaf) (.two (.leaf) (.two (.leaf) (.leaf))))))))))))
def R4 : Slots := [(4, .b)]
noncomputable def overdublaw09_BlockUnseals : FunA := denF Try.prog G4 Try.f4 A4 R4
noncomputable def overdublaw09_BlockUnseals_L1_B (os vs : List AV) (μ : AMem) : Option Res := joinK [(10, .i .i64)] vs (envO [1, 5, 6, 8] os) fun e => den Try.prog G4 Try.f4.ntmps (cL (cL (cR (cL (cR (cR (cR (cR (cR (cR (cR (bodyOf Try.f4)))))))))))) (aL (aL (aR (aL (aR (aR (aR (aR (aR (aR (aR A4))))))))))) { ret := R4, exits := [(0, [(1, .i .i64), (5, .s), (6, .s)])] } Res e μ fun ex e μ => some (ex, valsOf (Lv.at { ret := R4, exits := [(0, [(1, .i .i64), (5, .s), (6, .s)])] } [(10, .i .i64)] ex) e, μ)
noncomputable def overdublaw09_BlockUnseals_L1 (os vs : List AV) (μ : AMem) : Option Res := loopA (overdublaw09_BlockUnseals_L1_B os) vs μ
theorem overdublaw09_BlockUnseals_L1_B_eq (s1 : Int) (s5 : SV) (s6 : SV) (s8 : SV) (s10 : Int) (μ : AMem) : overdublaw09_BlockUnseals_L1_B [.s (.int .i64 s1), .s s5, .s s6, .s s8] [.s (.int .i64 s10)] μ =
  (lenS (.s s8)).bind fun l80 =>
  bif decide (s10 < ((l80 : Nat) : Int)) then
  (indS 1 (.s s8) s10 fun p81 =>
    loadAt μ p81 fun v82 =>
    asI .u8 v82 fun n83 =>
    bif (n83 != 0) then
    (some (.ret, [.s (.bool false)], μ))
    else
    (some (.normal, [.s (.int .i64 (IntKind.wrap .i64 (s10 + 1)))], μ)))
  else
  (some (.exit 0, [.s (.int .i64 s1), .s s5, .s s6], μ)) := by kernel_rfl
theorem overdublaw09_BlockUnseals_L1_eq (os vs : List AV) (μ : AMem) : overdublaw09_BlockUnseals_L1 os vs μ = (overdublaw09_BlockUnseals_L1_B os vs μ).bind fun r => match r.1 with | .normal => overdublaw09_BlockUnseals_L1 os r.2.1 r.2.2 | _ => some r := loopA_eq _ _ _
theorem overdublaw09_BlockUnseals_eq (p0 : SV) (p1 : Int) (μ : AMem) : overdublaw09_BlockUnseals [.s p0, .s (.int .i64 p1)] μ =
  (overdubkeep_Cut_byte [.s p0, .s (.int .i64 124)] μ).bind fun r1 =>
  asS r1.1 fun x2 =>
  (block_New [] r1.2).bind fun r3 =>
  asS r3.1 fun x4 =>
  (isNil (.s x4)).bind fun b5 =>
  bif b5 then
  (some (.s (.bool false), r3.2))
  else
  ((block_Coder_Seal [.s x4, .s x2] r3.2).bind fun r6 =>
    extrK 0 r6.1 fun t7 =>
    asS t7 fun x8 =>
    extrK 1 r6.1 fun t9 =>
    asI .i64 t9 fun n10 =>
    (block_Coder_Unseal [.s x4, .s x8] r6.2).bind fun r11 =>
    extrK 0 r11.1 fun t12 =>
    asS t12 fun x13 =>
    extrK 1 r11.1 fun t14 =>
    asI .i64 t14 fun n15 =>
    seqJ
    (bif !(n10 != 0) then
      (bif !(n15 != 0) then
        ((lenS (.s x8)).bind fun l16 =>
          bif !(((l16 : Nat) : Int) != 128) then
          ((lenS (.s x13)).bind fun l17 =>
            bif !(((l17 : Nat) : Int) != 124) then
            ((lenS (.s x2)).bind fun l18 =>
              cutS 1 (.s x13) 0 ((l18 : Nat) : Int) fun x19 =>
              (overdubkeep_Same_byte [x19, .s x2] r11.2).bind fun r20 =>
              asB r20.1 fun b21 =>
              some (.normal, [.s (.bool (!b21))], r20.2))
            else
            (some (.normal, [.s (.bool true)], r11.2)))
          else
          (some (.normal, [.s (.bool true)], r11.2)))
        else
        (some (.normal, [.s (.bool true)], r11.2)))
      else
      (some (.normal, [.s (.bool true)], r11.2)))
    (fun vs22 m23 =>
      headK vs22 fun a24 r25 =>
      asB a24 fun b26 =>
      bif b26 then
      (some (.s (.bool false), m23))
      else
      ((lenS (.s x2)).bind fun l27 =>
        seqJ (overdublaw09_BlockUnseals_L1 [.s (.int .i64 p1), .s x4, .s x8, .s x13] [.s (.int .i64 ((l27 : Nat) : Int))] m23)
        (fun _ _ => none)
        (fun vs28 m29 =>
          headK vs28 fun a33 r34 =>
          asB a33 fun b35 =>
          some (.s (.bool b35), m29))
        (fun d32 vs30 m31 =>
          bif Nat.beq 0 d32 then (headK vs30 fun a36 r37 =>
            asI .i64 a36 fun n38 =>
            headK r37 fun a39 r40 =>
            asS a39 fun x41 =>
            headK r40 fun a42 r43 =>
            asS a42 fun x44 =>
            (overdubkeep_Within [.s (.int .i64 n38), .s (.int .i64 128)] m31).bind fun r45 =>
            asI .i64 r45.1 fun n46 =>
            cutS 1 (.s x44) 0 n46 fun x47 =>
            (block_Coder_Unseal [.s x41, x47] r45.2).bind fun r48 =>
            extrK 0 r48.1 fun t49 =>
            asS t49 fun x50 =>
            extrK 1 r48.1 fun t51 =>
            asI .i64 t51 fun n52 =>
            (overdubkeep_Copy_byte [.s x44] (r48.2.bump 11)).bind fun r53 =>
            asS r53.1 fun x54 =>
            appendA 5 1 1 (r48.2.next + 4) (r53.2.set (r48.2.next + 3) (rowObj [.int .u8 0] 1 5 (some 1))) (.s x54) (.s (.slice (r48.2.next + 3) 0 0 1)) fun x55 m56 =>
            asS x55 fun x57 =>
            (block_Coder_Unseal [.s x41, .s x57] m56).bind fun r58 =>
            extrK 0 r58.1 fun t59 =>
            asS t59 fun x60 =>
            extrK 1 r58.1 fun t61 =>
            asI .i64 t61 fun n62 =>
            (overdubkeep_Within [.s (.int .i64 n38), .s (.int .i64 9)] (r58.2.bump 11)).bind fun r63 =>
            asI .i64 r63.1 fun n64 =>
            if 0 ≤ (IntKind.wrap .i64 (125 + n64)) ∧ (IntKind.wrap .i64 (125 + n64)) ≤ (IntKind.wrap .i64 (125 + n64)) ∧ (IntKind.wrap .i64 (125 + n64)) ≤ 9223372036854775807 ∧ (1 : Nat) * (IntKind.wrap .i64 (125 + n64)) ≤ 140737488355328 then
            ((block_Coder_Seal [.s x41, .s (.slice (r58.2.next + 4) 0 0 (Int.toNat (IntKind.wrap .i64 (125 + n64))))] (r63.2.set (r58.2.next + 4) (rowObj (zerosA [.int .u8 0] (Int.toNat (IntKind.wrap .i64 (125 + n64)))) 1 5 (some (Int.toNat (IntKind.wrap .i64 (125 + n64))))))).bind fun r65 =>
              extrK 0 r65.1 fun t66 =>
              asS t66 fun x67 =>
              extrK 1 r65.1 fun t68 =>
              asI .i64 t68 fun n69 =>
              bif (n52 == 2) then
              (bif (n62 == 2) then
                (bif (n69 == 4) then
                  ((overdublaw09_wakes [] r65.2).bind fun r70 =>
                    asB r70.1 fun b71 =>
                    some (.s (.bool b71), r70.2))
                  else
                  (some (.s (.bool false), r65.2)))
                else
                (some (.s (.bool false), r65.2)))
              else
              (some (.s (.bool false), r65.2))) else none) else (none))))
    (fun vs72 m73 =>
      headK vs72 fun a77 r78 =>
      asB a77 fun b79 =>
      some (.s (.bool b79), m73))
    (fun d76 vs74 m75 =>
      none)) := by rw [← G4_14, ← G4_9, ← G4_15, ← G4_16, ← G4_12, ← G4_17, ← G4_18, ← G4_13]; kernel_rfl

/-! ### overdub/bits.NewReader -/
noncomputable def G36 : FuncId → FunA := fun _ _ _ => none
def A36 : Ann := .two (.leaf) (.two (.leaf) (.leaf))
def R36 : Slots := [(2, .s)]
noncomputable def bits_NewReader : FunA := denF Try.prog G36 Try.f36 A36 R36
theorem bits_NewReader_eq (p0 : SV) (μ : AMem) : bits_NewReader [.s p0] μ =
  appendA 5 1 1 (μ.next + 1) (μ.bump 5) (.s .nilSlice) (.s p0) fun x1 m2 =>
  asS x1 fun x3 =>
  some (.s (.ptr (μ.next + 3) 0 0), (m2.set (μ.next + 3) (rowObj [x3, .int .i64 0] 2 103 (some 1)))) := by kernel_rfl

/-! ### (*overdub/bits.Reader).Left -/
noncomputable def G52 : FuncId → FunA := fun _ _ _ => none
def A52 : Ann := .two (.leaf) (.two (.ord [0, 1, 2, 3, 4, 5, 6, 7, 8, 9, 10, 11]) (.leaf))
def R52 : Slots := [(2, .i .i64)]
noncomputable def bits_Reader_Left : FunA := denF Try.prog G52 Try.f52 A52 R52
theorem bits_Reader_Left_eq (p0 q0 o0 : Nat) (μ : AMem) : bits_Reader_Left [.s (.ptr p0 q0 o0)] μ =
  (μ.cell p0 q0 (o0 + 0)).bind fun x1 =>
  (lenS (.s x1)).bind fun l2 =>
  (μ.cell p0 q0 (o0 + 1)).bind fun x3 =>
  asI .i64 (.s x3) fun n4 =>
  some (.s (.int .i64 (IntKind.wrap .i64 ((IntKind.wrap .i64 (8 * ((l2 : Nat) : Int))) - n4))), μ) := by kernel_rfl

/-! ### (*overdub/bits.Reader).digit -/
noncomputable def G53 : FuncId → FunA := fun _ _ _ => none
def A53 : Ann := .two (.leaf) (.two (.leaf) (.two (.leaf) (.leaf)))
def R53 : Slots := [(4, .i .i64)]
noncomputable def bits_Reader_digit : FunA := denF Try.prog G53 Try.f53 A53 R53
theorem bits_Reader_digit_eq (p0 q0 o0 : Nat) (p1 : Int) (μ : AMem) : bits_Reader_digit [.s (.ptr p0 q0 o0), .s (.int .i64 p1)] μ =
  (μ.cell p0 q0 (o0 + 1)).bind fun x1 =>
  asI .i64 (.s x1) fun n2 =>
  (μ.cell p0 q0 (o0 + 0)).bind fun x3 =>
  indS 1 (.s x3) (IntKind.wrap .i64 (Int.tdiv (IntKind.wrap .i64 (n2 + p1)) 8)) fun p4 =>
  loadAt μ p4 fun v5 =>
  asI .u8 v5 fun n6 =>
  if (IntKind.wrap .i64 (7 - (Int.tmod (IntKind.wrap .i64 (n2 + p1)) 8))) < 0 then none else
  (some (.s (.int .i64 (IntKind.wrap .i64 (BitVec.toNat ((BitVec.ofInt (IntKind.bits .i64) (Int.fdiv (IntKind.wrap .i64 n6) (2 ^ (min (Int.toNat (IntKind.wrap .i64 (7 - (Int.tmod (IntKind.wrap .i64 (n2 + p1)) 8)))) (IntKind.bits .i64))))) &&& (BitVec.ofInt (IntKind.bits .i64) 1))))), μ)) := by kernel_rfl

/-! ### (*overdub/bits.Reader).Get -/
noncomputable def G47 : FuncId → FunA := fun g => bif Nat.beq g 52 then bits_Reader_Left else bif Nat.beq g 53 then bits_Reader_digit else fun _ _ => none
theorem G47_52 : G47 52 = bits_Reader_Left := by kernel_rfl
theorem G47_53 : G47 53 = bits_Reader_digit := by kernel_rfl
def A47 : Ann := .two (.leaf) (.two (.join [(19, .b)] [0, 1] [] (.leaf) (.two (.two (.leaf) (.leaf)) (.leaf))) (.two (.leaf) (.two (.two (.leaf) (.join [(0, .s), (1, .i .i64), (6, .i .i64)] [] [] (.loop [(6, .i .i64), (21, .i .i64)] [0, 1, 20] [0] (.two (.leaf) (.two (.two (.leaf) (.leaf)) (.two (.join [(0, .s), (1, .i .i64), (6, .i .i64), (20, .i .i64), (21, .i .i64)] [] [] (.two (.leaf) (.leaf)) .leaf) (.leaf))))) .leaf)) (.two (.leaf) (.two (.leaf) (.leaf))))))
def R47 : Slots := [(4, .i .i64), (5, .b)]
noncomputable def bits_Reader_Get : FunA := denF Try.prog G47 Try.f47 A47 R47
noncomputable def bits_Reader_Get_L1_B (os vs : List AV) (μ : AMem) : Option Res := joinK [(6, .i .i64), (21, .i .i64)] vs (envO [0, 1, 20] os) fun e => den Try.prog G47 Try.f47.ntmps (cL (cL (cR (cL (cR (cR (cR (bodyOf Try.f47)))))))) (aL (aL (aR (aL (aR (aR (aR A47))))))) { ret := R47, exits := [(0, [(0, .s), (1, .i .i64), (6, .i .i64)])] } Res e μ fun ex e μ => some (ex, valsOf (Lv.at { ret := R47, exits := [(0, [(0, .s), (1, .i .i64), (6, .i .i64)])] } [(6, .i .i64), (21, .i .i64)] ex) e, μ)
noncomputable def bits_Reader_Get_L1 (os vs : List AV) (μ : AMem) : Option Res := loopA (bits_Reader_Get_L1_B os) vs μ
theorem bits_Reader_Get_L1_B_eq (s0 t0 u0 : Nat) (s1 : Int) (s20 : Int) (s6 : Int) (s21 : Int) (μ : AMem) : bits_Reader_Get_L1_B [.s (.ptr s0 t0 u0), .s (.int .i64 s1), .s (.int .i64 s20)] [.s (.int .i64 s6), .s (.int .i64 s21)] μ =
  bif decide (s21 < s20) then
  ((bits_Reader_digit [.s (.ptr s0 t0 u0), .s (.int .i64 s21)] μ).bind fun r44 =>
    asI .i64 r44.1 fun n45 =>
    some (.normal, [.s (.int .i64 (IntKind.wrap .i64 (BitVec.toNat ((BitVec.ofInt (IntKind.bits .i64) (IntKind.wrap .i64 (s6 * 2 ^ (1 : Nat)))) ||| (BitVec.ofInt (IntKind.bits .i64) n45))))), .s (.int .i64 (IntKind.wrap .i64 (s21 + 1)))], r44.2))
  else
  (some (.exit 0, [.s (.ptr s0 t0 u0), .s (.int .i64 s1), .s (.int .i64 s6)], μ)) := by rw [← G47_53]; kernel_rfl
theorem bits_Reader_Get_L1_eq (os vs : List AV) (μ : AMem) : bits_Reader_Get_L1 os vs μ = (bits_Reader_Get_L1_B os vs μ).bind fun r => match r.1 with | .normal => bits_Reader_Get_L1 os r.2.1 r.2.2 | _ => some r := loopA_eq _ _ _
theorem bits_Reader_Get_eq (p0 q0 o0 : Nat) (p1 : Int) (μ : AMem) : bits_Reader_Get [.s (.ptr p0 q0 o0), .s (.int .i64 p1)] μ =
  seqJ
  (bif !(decide (p1 < 0)) then
    (bif !(decide (p1 > 62)) then
      ((bits_Reader_Left [.s (.ptr p0 q0 o0)] μ).bind fun r1 =>
        asI .i64 r1.1 fun n2 =>
        some (.normal, [.s (.bool (decide (p1 > n2)))], r1.2))
      else
      (some (.normal, [.s (.bool true)], μ)))
    else
    (some (.normal, [.s (.bool true)], μ)))
  (fun vs3 m4 =>
    headK vs3 fun a5 r6 =>
    asB a5 fun b7 =>
    bif b7 then
    (some (.tuple [.s (.int .i64 0), .s (.bool false)], m4))
    else
    (seqJ (bits_Reader_Get_L1 [.s (.ptr p0 q0 o0), .s (.int .i64 p1), .s (.int .i64 p1)] [.s (.int .i64 0), .s (.int .i64 0)] m4)
      (fun _ _ => none)
      (fun vs8 m9 =>
        headK vs8 fun a13 r14 =>
        asI .i64 a13 fun n15 =>
        headK r14 fun a16 r17 =>
        asB a16 fun b18 =>
        some (.tuple [.s (.int .i64 n15), .s (.bool b18)], m9))
      (fun d12 vs10 m11 =>
        bif Nat.beq 0 d12 then (headK vs10 fun a19 r20 =>
          asS a19 fun x21 =>
          headK r20 fun a22 r23 =>
          asI .i64 a22 fun n24 =>
          headK r23 fun a25 r26 =>
          asI .i64 a25 fun n27 =>
          nonNil (.s x21)
          (ptrAdd 1 (.s x21) fun p28 =>
            loadAt m11 p28 fun v29 =>
            asI .i64 v29 fun n30 =>
            nonNil (.s x21)
            (ptrAdd 1 (.s x21) fun p31 =>
              storeAt 1 m11 p31 (.s (.int .i64 (IntKind.wrap .i64 (n30 + n24)))) fun m32 =>
              some (.tuple [.s (.int .i64 n27), .s (.bool true)], m32)))) else (none))))
  (fun vs33 m34 =>
    headK vs33 fun a38 r39 =>
    asI .i64 a38 fun n40 =>
    headK r39 fun a41 r42 =>
    asB a41 fun b43 =>
    some (.tuple [.s (.int .i64 n40), .s (.bool b43)], m34))
  (fun d37 vs35 m36 =>
    none) := by rw [← G47_52]; kernel_rfl

/-! ### (*overdub/frame.reader).get -/
noncomputable def G37 : FuncId → FunA := fun g => bif Nat.beq g 47 then bits_Reader_Get else fun _ _ => none
theorem G37_47 : G37 47 = bits_Reader_Get := by kernel_rfl
def A37 : Ann := .two (.leaf) (.two (.leaf) (.join [] [5] [] (.leaf) (.two (.leaf) (.leaf))))
def R37 : Slots := [(4, .i .i64)]
noncomputable def frame_reader_get : FunA := denF Try.prog G37 Try.f37 A37 R37
theorem frame_reader_get_eq (p0 q0 o0 : Nat) (p1 : Int) (μ : AMem) : frame_reader_get [.s (.ptr p0 q0 o0), .s (.int .i64 p1)] μ =
  (μ.cell p0 q0 (o0 + 0)).bind fun x1 =>
  (bits_Reader_Get [.s x1, .s (.int .i64 p1)] μ).bind fun r2 =>
  extrK 0 r2.1 fun t3 =>
  asI .i64 t3 fun n4 =>
  extrK 1 r2.1 fun t5 =>
  asB t5 fun b6 =>
  seqJ
  ((r2.2.cell p0 q0 (o0 + 1)).bind fun x7 =>
    asB (.s x7) fun b8 =>
    bif !b8 then
    ((r2.2.store p0 q0 (o0 + 1) [.bool (!b6)]).bind fun m9 =>
      some (.normal, [], m9))
    else
    ((r2.2.store p0 q0 (o0 + 1) [.bool true]).bind fun m10 =>
      some (.normal, [], m10)))
  (fun vs11 m12 =>
    some (.s (.int .i64 n4), m12))
  (fun vs13 m14 =>
    headK vs13 fun a18 r19 =>
    asI .i64 a18 fun n20 =>
    some (.s (.int .i64 n20), m14))
  (fun d17 vs15 m16 =>
    none) := by rw [← G37_47]; kernel_rfl

/-! ### (*overdub/frame.reader).samples -/
noncomputable def G48 : FuncId → FunA := fun g => bif Nat.beq g 37 then frame_reader_get else fun _ _ => none
theorem G48_37 : G48 37 = frame_reader_get := by kernel_rfl
def A48 : Ann := .two (.leaf) (.two (.leaf) (.two (.two (.leaf) (.join [(5, .s)] [] [] (.loop [(5, .s), (7, .i .i64)] [0, 6] [0] (.two (.leaf) (.two (.two (.leaf) (.leaf)) (.two (.join [(0, .s), (5, .s), (6, .i .i64), (7, .i .i64)] [] [] (.leaf) .leaf) (.leaf))))) .leaf)) (.two (.leaf) (.leaf))))
def R48 : Slots := [(4, .s)]
noncomputable def frame_reader_samples : FunA := denF Try.prog G48 Try.f48 A48 R48
noncomputable def frame_reader_samples_L1_B (os vs : List AV) (μ : AMem) : Option Res := joinK [(5, .s), (7, .i .i64)] vs (envO [0, 6] os) fun e => den Try.prog G48 Try.f48.ntmps (cL (cL (cR (cL (cR (cR (bodyOf Try.f48))))))) (aL (aL (aR (aL (aR (aR A48)))))) { ret := R48, exits := [(0, [(5, .s)])] } Res e μ fun ex e μ => some (ex, valsOf (Lv.at { ret := R48, exits := [(0, [(5, .s)])] } [(5, .s), (7, .i .i64)] ex) e, μ)
noncomputable def frame_reader_samples_L1 (os vs : List AV) (μ : AMem) : Option Res := loopA (frame_reader_samples_L1_B os) vs μ
theorem frame_reader_samples_L1_B_eq (s0 t0 u0 : Nat) (s6 : Int) (s5 : SV) (s7 : Int) (μ : AMem) : frame_reader_samples_L1_B [.s (.ptr s0 t0 u0), .s (.int .i64 s6)] [.s s5, .s (.int .i64 s7)] μ =
  bif decide (s7 < s6) then
  ((frame_reader_get [.s (.ptr s0 t0 u0), .s (.int .i64 24)] (μ.bump 7)).bind fun r12 =>
    asI .i64 r12.1 fun n13 =>
    appendA 3 1 8 (μ.next + 5) (r12.2.set (μ.next + 4) (rowObj [.int .i64 (IntKind.wrap .i64 (n13 + (-8388608)))] 1 3 (some 1))) (.s s5) (.s (.slice (μ.next + 4) 0 0 1)) fun x14 m15 =>
    asS x14 fun x16 =>
    some (.normal, [.s x16, .s (.int .i64 (IntKind.wrap .i64 (s7 + 1)))], m15))
  else
  (some (.exit 0, [.s s5], μ)) := by rw [← G48_37]; kernel_rfl
theorem frame_reader_samples_L1_eq (os vs : List AV) (μ : AMem) : frame_reader_samples_L1 os vs μ = (frame_reader_samples_L1_B os vs μ).bind fun r => match r.1 with | .normal => frame_reader_samples_L1 os r.2.1 r.2.2 | _ => some r := loopA_eq _ _ _
theorem frame_reader_samples_eq (p0 q0 o0 : Nat) (p1 : Int) (μ : AMem) : frame_reader_samples [.s (.ptr p0 q0 o0), .s (.int .i64 p1)] μ =
  seqJ (frame_reader_samples_L1 [.s (.ptr p0 q0 o0), .s (.int .i64 p1)] [.s .nilSlice, .s (.int .i64 0)] μ)
  (fun _ _ => none)
  (fun vs1 m2 =>
    headK vs1 fun a6 r7 =>
    asS a6 fun x8 =>
    some (.s x8, m2))
  (fun d5 vs3 m4 =>
    bif Nat.beq 0 d5 then (headK vs3 fun a9 r10 =>
      asS a9 fun x11 =>
      some (.s x11, m4)) else (none)) := by kernel_rfl

/-! ### (*overdub/bits.Reader).Back -/
noncomputable def G80 : FuncId → FunA := fun _ _ _ => none
def A80 : Ann := .two (.leaf) (.two (.ord [0, 1, 2, 3, 4, 5, 6, 7, 8, 9, 10]) (.leaf))
def R80 : Slots := [(2, .s)]
noncomputable def bits_Reader_Back : FunA := denF Try.prog G80 Try.f80 A80 R80
theorem bits_Reader_Back_eq (p0 q0 o0 : Nat) (μ : AMem) : bits_Reader_Back [.s (.ptr p0 q0 o0)] μ =
  ((μ.bump 11).cell p0 q0 (o0 + 0)).bind fun x1 =>
  ((μ.bump 11).cell p0 q0 (o0 + 1)).bind fun x2 =>
  asI .i64 (.s x2) fun n3 =>
  checkA ((μ.bump 11).obj (μ.next + 9) = none)
  (some (.s (.ptr (μ.next + 9) 0 0), ((μ.bump 11).set (μ.next + 9) (rowObj [x1, .int .i64 n3] 2 103 (some 1))))) := by kernel_rfl

/-! ### (*overdub/bits.Reader).Ones -/
noncomputable def G81 : FuncId → FunA := fun g => bif Nat.beq g 52 then bits_Reader_Left else bif Nat.beq g 53 then bits_Reader_digit else fun _ _ => none
theorem G81_52 : G81 52 = bits_Reader_Left := by kernel_rfl
theorem G81_53 : G81 53 = bits_Reader_digit := by kernel_rfl
def A81 : Ann := .two (.leaf) (.two (.join [(13, .b)] [0, 1] [] (.leaf) (.two (.two (.leaf) (.leaf)) (.leaf))) (.two (.leaf) (.two (.two (.leaf) (.join [(0, .s), (1, .i .i64)] [] [] (.loop [(17, .i .i64)] [0, 1, 6, 16] [0] (.two (.leaf) (.two (.two (.leaf) (.leaf)) (.two (.join [(0, .s), (1, .i .i64), (6, .i .i64), (16, .i .i64), (17, .i .i64)] [] [] (.two (.leaf) (.two (.two (.leaf) (.two (.two (.leaf) (.leaf)) (.leaf))) (.two (.leaf) (.two (.two (.leaf) (.two (.leaf) (.leaf))) (.leaf))))) .leaf) (.leaf))))) .leaf)) (.two (.leaf) (.two (.leaf) (.leaf))))))
def R81 : Slots := [(4, .i .i64), (5, .b)]
noncomputable def bits_Reader_Ones : FunA := denF Try.prog G81 Try.f81 A81 R81
noncomputable def bits_Reader_Ones_L1_B (os vs : List AV) (μ : AMem) : Option Res := joinK [(17, .i .i64)] vs (envO [0, 1, 6, 16] os) fun e => den Try.prog G81 Try.f81.ntmps (cL (cL (cR (cL (cR (cR (cR (bodyOf Try.f81)))))))) (aL (aL (aR (aL (aR (aR (aR A81))))))) { ret := R81, exits := [(0, [(0, .s), (1, .i .i64)])] } Res e μ fun ex e μ => some (ex, valsOf (Lv.at { ret := R81, exits := [(0, [(0, .s), (1, .i .i64)])] } [(17, .i .i64)] ex) e, μ)
noncomputable def bits_Reader_Ones_L1 (os vs : List AV) (μ : AMem) : Option Res := loopA (bits_Reader_Ones_L1_B os) vs μ
theorem bits_Reader_Ones_L1_B_eq (s0 t0 u0 : Nat) (s1 : Int) (s6 : Int) (s16 : Int) (s17 : Int) (μ : AMem) : bits_Reader_Ones_L1_B [.s (.ptr s0 t0 u0), .s (.int .i64 s1), .s (.int .i64 s6), .s (.int .i64 s16)] [.s (.int .i64 s17)] μ =
  bif decide (s17 < s16) then
  (bif decide (s17 ≥ s6) then
    (some (.ret, [.s (.int .i64 0), .s (.bool false)], μ))
    else
    ((bits_Reader_digit [.s (.ptr s0 t0 u0), .s (.int .i64 s17)] μ).bind fun r41 =>
      asI .i64 r41.1 fun n42 =>
      bif (n42 == 0) then
      ((r41.2.cell s0 t0 (u0 + 1)).bind fun x43 =>
        asI .i64 (.s x43) fun n44 =>
        (r41.2.store s0 t0 (u0 + 1) [.int .i64 (IntKind.wrap .i64 ((IntKind.wrap .i64 (n44 + s17)) + 1))]).bind fun m45 =>
        some (.ret, [.s (.int .i64 s17), .s (.bool true)], m45))
      else
      (some (.normal, [.s (.int .i64 (IntKind.wrap .i64 (s17 + 1)))], r41.2))))
  else
  (some (.exit 0, [.s (.ptr s0 t0 u0), .s (.int .i64 s1)], μ)) := by rw [← G81_53]; kernel_rfl
theorem bits_Reader_Ones_L1_eq (os vs : List AV) (μ : AMem) : bits_Reader_Ones_L1 os vs μ = (bits_Reader_Ones_L1_B os vs μ).bind fun r => match r.1 with | .normal => bits_Reader_Ones_L1 os r.2.1 r.2.2 | _ => some r := loopA_eq _ _ _
theorem bits_Reader_Ones_eq (p0 q0 o0 : Nat) (p1 : Int) (μ : AMem) : bits_Reader_Ones [.s (.ptr p0 q0 o0), .s (.int .i64 p1)] μ =
  seqJ
  (bif !(decide (p1 < 0)) then
    (some (.normal, [.s (.bool (decide (p1 > 1024)))], μ))
    else
    (some (.normal, [.s (.bool true)], μ)))
  (fun vs1 m2 =>
    headK vs1 fun a3 r4 =>
    asB a3 fun b5 =>
    bif b5 then
    (some (.tuple [.s (.int .i64 0), .s (.bool false)], m2))
    else
    ((bits_Reader_Left [.s (.ptr p0 q0 o0)] m2).bind fun r6 =>
      asI .i64 r6.1 fun n7 =>
      seqJ (bits_Reader_Ones_L1 [.s (.ptr p0 q0 o0), .s (.int .i64 p1), .s (.int .i64 n7), .s (.int .i64 p1)] [.s (.int .i64 0)] r6.2)
      (fun _ _ => none)
      (fun vs8 m9 =>
        headK vs8 fun a13 r14 =>
        asI .i64 a13 fun n15 =>
        headK r14 fun a16 r17 =>
        asB a16 fun b18 =>
        some (.tuple [.s (.int .i64 n15), .s (.bool b18)], m9))
      (fun d12 vs10 m11 =>
        bif Nat.beq 0 d12 then (headK vs10 fun a19 r20 =>
          asS a19 fun x21 =>
          headK r20 fun a22 r23 =>
          asI .i64 a22 fun n24 =>
          nonNil (.s x21)
          (ptrAdd 1 (.s x21) fun p25 =>
            loadAt m11 p25 fun v26 =>
            asI .i64 v26 fun n27 =>
            nonNil (.s x21)
            (ptrAdd 1 (.s x21) fun p28 =>
              storeAt 1 m11 p28 (.s (.int .i64 (IntKind.wrap .i64 (n27 + n24)))) fun m29 =>
              some (.tuple [.s (.int .i64 n24), .s (.bool true)], m29)))) else (none))))
  (fun vs30 m31 =>
    headK vs30 fun a35 r36 =>
    asI .i64 a35 fun n37 =>
    headK r36 fun a38 r39 =>
    asB a38 fun b40 =>
    some (.tuple [.s (.int .i64 n37), .s (.bool b40)], m31))
  (fun d34 vs32 m33 =>
    none) := by rw [← G81_52]; kernel_rfl

/-! ### (*overdub/bits.Reader).To -/
noncomputable def G82 : FuncId → FunA := fun _ _ _ => none
def A82 : Ann := .ord [0, 1, 2, 3, 4, 5, 6, 7, 8, 9, 10, 11, 12, 13, 14, 15]
def R82 : Slots := []
noncomputable def bits_Reader_To : FunA := denF Try.prog G82 Try.f82 A82 R82
theorem bits_Reader_To_eq (p0 q0 o0 : Nat) (p1 q1 o1 : Nat) (μ : AMem) : bits_Reader_To [.s (.ptr p0 q0 o0), .s (.ptr p1 q1 o1)] μ =
  (μ.cell p1 q1 (o1 + 0)).bind fun x1 =>
  (μ.cell p1 q1 (o1 + 1)).bind fun x2 =>
  asI .i64 (.s x2) fun n3 =>
  (μ.store p0 q0 (o0 + 0) [x1]).bind fun m4 =>
  (m4.store p0 q0 (o0 + 1) [.int .i64 n3]).bind fun m5 =>
  some (.tuple [], m5) := by kernel_rfl

/-! ### overdub/rice.Get -/
noncomputable def G66 : FuncId → FunA := fun g => bif Nat.beq g 80 then bits_Reader_Back else bif Nat.beq g 81 then bits_Reader_Ones else bif Nat.beq g 47 then bits_Reader_Get else bif Nat.beq g 82 then bits_Reader_To else fun _ _ => none
theorem G66_80 : G66 80 = bits_Reader_Back := by kernel_rfl
theorem G66_81 : G66 81 = bits_Reader_Ones := by kernel_rfl
theorem G66_47 : G66 47 = bits_Reader_Get := by kernel_rfl
theorem G66_82 : G66 82 = bits_Reader_To := by kernel_rfl
def A66 : Ann := .two (.leaf) (.two (.join [(16, .b)] [0, 1] [] (.leaf) (.two (.two (.leaf) (.leaf)) (.leaf))) (.two (.leaf) (.two (.leaf) (.two (.two (.leaf) (.two (.two (.leaf) (.leaf)) (.leaf))) (.two (.leaf) (.join [(9, .i .i64)] [0, 1, 6, 7] [] (.two (.leaf) (.two (.leaf) (.leaf))) (.two (.leaf) (.join [(10, .i .i64)] [0, 6] [] (.join [(0, .s), (6, .s), (10, .i .i64)] [] [] (.two (.leaf) (.two (.two (.leaf) (.leaf)) (.two (.leaf) (.two (.leaf) (.two (.leaf) (.two (.two (.leaf) (.leaf)) (.leaf))))))) .leaf) (.two (.leaf) (.two (.leaf) (.leaf)))))))))))
def R66 : Slots := [(4, .i .i64), (5, .b)]
noncomputable def rice_Get : FunA := denF Try.prog G66 Try.f66 A66 R66
theorem rice_Get_eq (p0 q0 o0 : Nat) (p1 : Int) (μ : AMem) : rice_Get [.s (.ptr p0 q0 o0), .s (.int .i64 p1)] μ =
  seqJ
  (bif !(decide (p1 < 0)) then
    (some (.normal, [.s (.bool (decide (p1 > 24)))], μ))
    else
    (some (.normal, [.s (.bool true)], μ)))
  (fun vs1 m2 =>
    headK vs1 fun a3 r4 =>
    asB a3 fun b5 =>
    bif b5 then
    (some (.tuple [.s (.int .i64 0), .s (.bool false)], m2))
    else
    ((bits_Reader_Back [.s (.ptr p0 q0 o0)] m2).bind fun r6 =>
      asS r6.1 fun x7 =>
      (bits_Reader_Ones [.s x7, .s (.int .i64 24)] r6.2).bind fun r8 =>
      extrK 0 r8.1 fun t9 =>
      asI .i64 t9 fun n10 =>
      extrK 1 r8.1 fun t11 =>
      asB t11 fun b12 =>
      bif (!b12) then
      (some (.tuple [.s (.int .i64 0), .s (.bool false)], r8.2))
      else
      (seqJ
        (bif (n10 == 24) then
          (some (.normal, [.s (.int .i64 32)], r8.2))
          else
          (some (.normal, [.s (.int .i64 p1)], r8.2)))
        (fun vs13 m14 =>
          headK vs13 fun a15 r16 =>
          asI .i64 a15 fun n17 =>
          (bits_Reader_Get [.s x7, .s (.int .i64 n17)] m14).bind fun r18 =>
          extrK 0 r18.1 fun t19 =>
          asI .i64 t19 fun n20 =>
          extrK 1 r18.1 fun t21 =>
          asB t21 fun b22 =>
          seqJ
          (bif (!b22) then
            (some (.ret, [.s (.int .i64 0), .s (.bool false)], r18.2))
            else
            (bif decide (n10 < 24) then
              (if p1 < 0 then none else
                (some (.normal, [.s (.int .i64 (IntKind.wrap .i64 (BitVec.toNat ((BitVec.ofInt (IntKind.bits .i64) (IntKind.wrap .i64 (n10 * 2 ^ (min (Int.toNat p1) (IntKind.bits .i64))))) ||| (BitVec.ofInt (IntKind.bits .i64) n20)))))], r18.2)))
              else
              (if p1 < 0 then none else
                (bif decide ((Int.fdiv n20 (2 ^ (min (Int.toNat p1) (IntKind.bits .i64)))) < 24) then
                  (some (.ret, [.s (.int .i64 0), .s (.bool false)], r18.2))
                  else
                  (some (.normal, [.s (.int .i64 n20)], r18.2))))))
          (fun vs23 m24 =>
            headK vs23 fun a25 r26 =>
            asI .i64 a25 fun n27 =>
            (bits_Reader_To [.s (.ptr p0 q0 o0), .s x7] m24).bind fun r28 =>
            some (.tuple [.s (.int .i64 n27), .s (.bool true)], r28.2))
          (fun vs29 m30 =>
            headK vs29 fun a34 r35 =>
            asI .i64 a34 fun n36 =>
            headK r35 fun a37 r38 =>
            asB a37 fun b39 =>
            some (.tuple [.s (.int .i64 n36), .s (.bool b39)], m30))
          (fun d33 vs31 m32 =>
            none))
        (fun vs40 m41 =>
          headK vs40 fun a45 r46 =>
          asI .i64 a45 fun n47 =>
          headK r46 fun a48 r49 =>
          asB a48 fun b50 =>
          some (.tuple [.s (.int .i64 n47), .s (.bool b50)], m41))
        (fun d44 vs42 m43 =>
          none))))
  (fun vs51 m52 =>
    headK vs51 fun a56 r57 =>
    asI .i64 a56 fun n58 =>
    headK r57 fun a59 r60 =>
    asB a59 fun b61 =>
    some (.tuple [.s (.int .i64 n58), .s (.bool b61)], m52))
  (fun d55 vs53 m54 =>
    none) := by rw [← G66_80, ← G66_81, ← G66_47, ← G66_82]; kernel_rfl

/-! ### overdub/rice.Zag -/
noncomputable def G67 : FuncId → FunA := fun _ _ _ => none
def A67 : Ann := .two (.leaf) (.two (.join [(0, .i .i64)] [] [] (.join [(3, .b)] [0] [] (.leaf) (.two (.two (.leaf) (.leaf)) (.two (.leaf) (.two (.two (.leaf) (.leaf)) (.leaf))))) .leaf) (.two (.leaf) (.leaf)))
def R67 : Slots := [(2, .i .i64)]
noncomputable def rice_Zag : FunA := denF Try.prog G67 Try.f67 A67 R67
theorem rice_Zag_eq (p0 : Int) (μ : AMem) : rice_Zag [.s (.int .i64 p0)] μ =
  seqJ
  (bif !(decide (p0 < 0)) then
    (some (.normal, [.s (.bool (decide (p0 ≥ 2199023255552)))], μ))
    else
    (some (.normal, [.s (.bool true)], μ)))
  (fun vs1 m2 =>
    headK vs1 fun a3 r4 =>
    asB a3 fun b5 =>
    bif b5 then
    (some (.s (.int .i64 0), m2))
    else
    (bif ((Int.tmod p0 2) == 1) then
      (some (.s (.int .i64 (IntKind.wrap .i64 (Int.tdiv (IntKind.wrap .i64 (0 - (IntKind.wrap .i64 (p0 + 1)))) 2))), m2))
      else
      (some (.s (.int .i64 (IntKind.wrap .i64 (Int.tdiv p0 2))), m2))))
  (fun vs6 m7 =>
    headK vs6 fun a11 r12 =>
    asI .i64 a11 fun n13 =>
    some (.s (.int .i64 n13), m7))
  (fun d10 vs8 m9 =>
    none) := by kernel_rfl

/-! ### (*overdub/frame.reader).residuals -/
noncomputable def G50 : FuncId → FunA := fun g => bif Nat.beq g 37 then frame_reader_get else bif Nat.beq g 66 then rice_Get else bif Nat.beq g 67 then rice_Zag else fun _ _ => none
theorem G50_37 : G50 37 = frame_reader_get := by kernel_rfl
theorem G50_66 : G50 66 = rice_Get := by kernel_rfl
theorem G50_67 : G50 67 = rice_Zag := by kernel_rfl
def A50 : Ann := .two (.leaf) (.two (.leaf) (.join [] [0, 1, 5] [] (.leaf) (.two (.leaf) (.two (.two (.leaf) (.join [(6, .s)] [] [] (.loop [(6, .s), (23, .i .i64)] [0, 5, 22] [0] (.two (.leaf) (.two (.two (.leaf) (.leaf)) (.two (.join [(0, .s), (5, .i .i64), (6, .s), (22, .i .i64), (23, .i .i64)] [] [] (.two (.leaf) (.two (.two (.leaf) (.two (.two (.leaf) (.two (.leaf) (.leaf))) (.leaf))) (.leaf))) .leaf) (.leaf))))) .leaf)) (.two (.leaf) (.leaf))))))
def R50 : Slots := [(4, .s)]
noncomputable def frame_reader_residuals : FunA := denF Try.prog G50 Try.f50 A50 R50
noncomputable def frame_reader_residuals_L1_B (os vs : List AV) (μ : AMem) : Option Res := joinK [(6, .s), (23, .i .i64)] vs (envO [0, 5, 22] os) fun e => den Try.prog G50 Try.f50.ntmps (cL (cL (cR (cL (cR (cR (cR (cR (bodyOf Try.f50))))))))) (aL (aL (aR (aL (aR (aR (aR (aR A50)))))))) { ret := R50, exits := [(0, [(6, .s)])] } Res e μ fun ex e μ => some (ex, valsOf (Lv.at { ret := R50, exits := [(0, [(6, .s)])] } [(6, .s), (23, .i .i64)] ex) e, μ)
noncomputable def frame_reader_residuals_L1 (os vs : List AV) (μ : AMem) : Option Res := loopA (frame_reader_residuals_L1_B os) vs μ
theorem frame_reader_residuals_L1_B_eq (s0 t0 u0 : Nat) (s5 : Int) (s22 : Int) (s6 : SV) (s23 : Int) (μ : AMem) : frame_reader_residuals_L1_B [.s (.ptr s0 t0 u0), .s (.int .i64 s5), .s (.int .i64 s22)] [.s s6, .s (.int .i64 s23)] μ =
  bif decide (s23 < s22) then
  ((μ.cell s0 t0 (u0 + 0)).bind fun x28 =>
    (rice_Get [.s x28, .s (.int .i64 s5)] μ).bind fun r29 =>
    extrK 0 r29.1 fun t30 =>
    asI .i64 t30 fun n31 =>
    extrK 1 r29.1 fun t32 =>
    asB t32 fun b33 =>
    bif (!b33) then
    ((r29.2.store s0 t0 (u0 + 1) [.bool true]).bind fun m34 =>
      some (.ret, [.s .nilSlice], m34))
    else
    ((rice_Zag [.s (.int .i64 n31)] (r29.2.bump 6)).bind fun r35 =>
      asI .i64 r35.1 fun n36 =>
      appendA 3 1 8 (r29.2.next + 4) (r35.2.set (r29.2.next + 3) (rowObj [.int .i64 n36] 1 3 (some 1))) (.s s6) (.s (.slice (r29.2.next + 3) 0 0 1)) fun x37 m38 =>
      asS x37 fun x39 =>
      some (.normal, [.s x39, .s (.int .i64 (IntKind.wrap .i64 (s23 + 1)))], m38)))
  else
  (some (.exit 0, [.s s6], μ)) := by rw [← G50_66, ← G50_67]; kernel_rfl
theorem frame_reader_residuals_L1_eq (os vs : List AV) (μ : AMem) : frame_reader_residuals_L1 os vs μ = (frame_reader_residuals_L1_B os vs μ).bind fun r => match r.1 with | .normal => frame_reader_residuals_L1 os r.2.1 r.2.2 | _ => some r := loopA_eq _ _ _
theorem frame_reader_residuals_eq (p0 q0 o0 : Nat) (p1 : Int) (μ : AMem) : frame_reader_residuals [.s (.ptr p0 q0 o0), .s (.int .i64 p1)] μ =
  (frame_reader_get [.s (.ptr p0 q0 o0), .s (.int .i64 5)] μ).bind fun r1 =>
  asI .i64 r1.1 fun n2 =>
  seqJ
  ((r1.2.cell p0 q0 (o0 + 1)).bind fun x3 =>
    asB (.s x3) fun b4 =>
    bif !b4 then
    ((r1.2.store p0 q0 (o0 + 1) [.bool (decide (n2 > 24))]).bind fun m5 =>
      some (.normal, [], m5))
    else
    ((r1.2.store p0 q0 (o0 + 1) [.bool true]).bind fun m6 =>
      some (.normal, [], m6)))
  (fun vs7 m8 =>
    seqJ (frame_reader_residuals_L1 [.s (.ptr p0 q0 o0), .s (.int .i64 n2), .s (.int .i64 p1)] [.s .nilSlice, .s (.int .i64 0)] m8)
    (fun _ _ => none)
    (fun vs9 m10 =>
      headK vs9 fun a14 r15 =>
      asS a14 fun x16 =>
      some (.s x16, m10))
    (fun d13 vs11 m12 =>
      bif Nat.beq 0 d13 then (headK vs11 fun a17 r18 =>
        asS a17 fun x19 =>
        some (.s x19, m12)) else (none)))
  (fun vs20 m21 =>
    headK vs20 fun a25 r26 =>
    asS a25 fun x27 =>
    some (.s x27, m21))
  (fun d24 vs22 m23 =>
    none) := by rw [← G50_37]; kernel_rfl

/-! ### overdub/fixed.Restore$1 -/
noncomputable def G65 : FuncId → FunA := fun g => bif Nat.beq g 56 then fixed_guess else fun _ _ => none
theorem G65_56 : G65 56 = fixed_guess := by kernel_rfl
def A65 : Ann := .two (.leaf) (.two (.leaf) (.leaf))
def R65 : Slots := [(3, .i .i64)]
noncomputable def fixed_Restore_1 : FunA := denF Try.prog G65 Try.f65 A65 R65
theorem fixed_Restore_1_eq (p0 : SV) (p1 q1 o1 : Nat) (μ : AMem) : fixed_Restore_1 [.s p0, .s (.ptr p1 q1 o1)] μ =
  (μ.cell p1 q1 o1).bind fun x1 =>
  (fixed_guess [.s p0, .s x1] μ).bind fun r2 =>
  asI .i64 r2.1 fun n3 =>
  some (.s (.int .i64 n3), r2.2) := by rw [← G65_56]; kernel_rfl

/-! ### overdub/lpc.Restore$1 -/
noncomputable def G69 : FuncId → FunA := fun g => bif Nat.beq g 70 then lpc_Guess else fun _ _ => none
theorem G69_70 : G69 70 = lpc_Guess := by kernel_rfl
def A69 : Ann := .two (.leaf) (.two (.leaf) (.leaf))
def R69 : Slots := [(3, .i .i64)]
noncomputable def lpc_Restore_1 : FunA := denF Try.prog G69 Try.f69 A69 R69
theorem lpc_Restore_1_eq (p0 : SV) (p1 q1 o1 : Nat) (μ : AMem) : lpc_Restore_1 [.s p0, .s (.ptr p1 q1 o1)] μ =
  (μ.cell p1 q1 o1).bind fun x1 =>
  (lpc_Guess [.s p0, .s x1] μ).bind fun r2 =>
  asI .i64 r2.1 fun n3 =>
  some (.s (.int .i64 n3), r2.2) := by rw [← G69_70]; kernel_rfl

/-! ### overdub/fixed.Run -/
noncomputable def G64 : FuncId → FunA := fun g => bif Nat.beq g 28 then fixed_Check else bif Nat.beq g 32 then fixed_Sample else bif Nat.beq g 65 then fixed_Restore_1 else bif Nat.beq g 69 then lpc_Restore_1 else fun _ _ => none
theorem G64_28 : G64 28 = fixed_Check := by kernel_rfl
theorem G64_32 : G64 32 = fixed_Sample := by kernel_rfl
theorem G64_65 : G64 65 = fixed_Restore_1 := by kernel_rfl
theorem G64_69 : G64 69 = lpc_Restore_1 := by kernel_rfl
def A64 : Ann := .two (.leaf) (.two (.leaf) (.two (.two (.leaf) (.two (.leaf) (.two (.two (.leaf) (.leaf)) (.leaf)))) (.two (.two (.leaf) (.join [(8, .s)] [] [] (.loop [(8, .s), (26, .i .i64)] [2, 24, 25] [0] (.two (.leaf) (.two (.two (.leaf) (.leaf)) (.two (.join [(2, .s), (8, .s), (24, .s), (25, .i .i64), (26, .i .i64)] [] [] (.two (.leaf) (.two (.join [(35, .b)] [2, 8, 11, 24, 25, 26] [] (.leaf) (.two (.two (.leaf) (.leaf)) (.leaf))) (.two (.leaf) (.two (.two (.leaf) (.two (.two (.leaf) (.leaf)) (.leaf))) (.leaf))))) .leaf) (.leaf))))) .leaf)) (.two (.two (.leaf) (.two (.two (.leaf) (.leaf)) (.leaf))) (.two (.leaf) (.leaf))))))
def R64 : Slots := [(6, .s), (7, .i .i64)]
noncomputable def fixed_Run : FunA := denF Try.prog G64 Try.f64 A64 R64
noncomputable def fixed_Run_L1_B (os vs : List AV) (μ : AMem) : Option Res := joinK [(8, .s), (26, .i .i64)] vs (envO [2, 24, 25] os) fun e => den Try.prog G64 Try.f64.ntmps (cL (cL (cR (cL (cR (cR (cR (bodyOf Try.f64)))))))) (aL (aL (aR (aL (aR (aR (aR A64))))))) { ret := R64, exits := [(0, [(8, .s)])] } Res e μ fun ex e μ => some (ex, valsOf (Lv.at { ret := R64, exits := [(0, [(8, .s)])] } [(8, .s), (26, .i .i64)] ex) e, μ)
noncomputable def fixed_Run_L1 (os vs : List AV) (μ : AMem) : Option Res := loopA (fixed_Run_L1_B os) vs μ
theorem fixed_Run_L1_B_eq (s2 : SV) (s24 : SV) (s25 : Int) (s8 : SV) (s26 : Int) (μ : AMem) : fixed_Run_L1_B [.s s2, .s s24, .s (.int .i64 s25)] [.s s8, .s (.int .i64 s26)] μ =
  bif decide (s26 < s25) then
  (indS 1 (.s s24) s26 fun p24 =>
    loadAt μ p24 fun v25 =>
    asI .i64 v25 fun n26 =>
    seqJ
    (bif !(decide (n26 < (-1099511627776))) then
      (some (.normal, [.s (.bool (decide (n26 > 1099511627776)))], μ))
      else
      (some (.normal, [.s (.bool true)], μ)))
    (fun vs27 m28 =>
      headK vs27 fun a29 r30 =>
      asB a29 fun b31 =>
      bif b31 then
      (some (.ret, [.s .nilSlice, .s (.int .i64 8)], m28))
      else
      (callV G64 (.s s2) [.s s8] m28 fun v33 m34 =>
        asI .i64 v33 fun n35 =>
        (fixed_Sample [.s (.int .i64 (IntKind.wrap .i64 (n35 + n26)))] m34).bind fun r36 =>
        asB r36.1 fun b37 =>
        bif (!b37) then
        (some (.ret, [.s .nilSlice, .s (.int .i64 8)], r36.2))
        else
        (appendA 3 1 8 (r36.2.next + 3) ((r36.2.bump 5).set (r36.2.next + 2) (rowObj [.int .i64 (IntKind.wrap .i64 (n35 + n26))] 1 3 (some 1))) (.s s8) (.s (.slice (r36.2.next + 2) 0 0 1)) fun x38 m39 =>
          asS x38 fun x40 =>
          some (.normal, [.s x40, .s (.int .i64 (IntKind.wrap .i64 (s26 + 1)))], m39))))
    (fun vs41 m42 =>
      headK vs41 fun a46 r47 =>
      asS a46 fun x48 =>
      headK r47 fun a49 r50 =>
      asI .i64 a49 fun n51 =>
      some (.ret, [.s x48, .s (.int .i64 n51)], m42))
    (fun d45 vs43 m44 =>
      none))
  else
  (some (.exit 0, [.s s8], μ)) := by rw [← G64_32]; kernel_rfl
theorem fixed_Run_L1_eq (os vs : List AV) (μ : AMem) : fixed_Run_L1 os vs μ = (fixed_Run_L1_B os vs μ).bind fun r => match r.1 with | .normal => fixed_Run_L1 os r.2.1 r.2.2 | _ => some r := loopA_eq _ _ _
theorem fixed_Run_eq (p0 : SV) (p1 : SV) (p2 : SV) (μ : AMem) : fixed_Run [.s p0, .s p1, .s p2] μ =
  appendA 3 1 8 (μ.next + 1) (μ.bump 3) (.s .nilSlice) (.s p0) fun x1 m2 =>
  asS x1 fun x3 =>
  (lenS (.s p0)).bind fun l4 =>
  cutS 1 (.s p0) 0 (if 64 < ((l4 : Nat) : Int) then 64 else ((l4 : Nat) : Int)) fun x5 =>
  (fixed_Check [x5] m2).bind fun r6 =>
  asI .i64 r6.1 fun n7 =>
  bif (n7 != 0) then
  (some (.tuple [.s .nilSlice, .s (.int .i64 n7)], r6.2))
  else
  ((lenS (.s p1)).bind fun l8 =>
    seqJ (fixed_Run_L1 [.s p2, .s p1, .s (.int .i64 ((l8 : Nat) : Int))] [.s x3, .s (.int .i64 0)] r6.2)
    (fun _ _ => none)
    (fun vs9 m10 =>
      headK vs9 fun a14 r15 =>
      asS a14 fun x16 =>
      headK r15 fun a17 r18 =>
      asI .i64 a17 fun n19 =>
      some (.tuple [.s x16, .s (.int .i64 n19)], m10))
    (fun d13 vs11 m12 =>
      bif Nat.beq 0 d13 then (headK vs11 fun a20 r21 =>
        asS a20 fun x22 =>
        (lenS (.s x22)).bind fun l23 =>
        bif decide (((l23 : Nat) : Int) > 64) then
        (some (.tuple [.s .nilSlice, .s (.int .i64 4)], m12))
        else
        (some (.tuple [.s x22, .s (.int .i64 0)], m12))) else (none))) := by rw [← G64_28]; kernel_rfl

/-! ### overdub/fixed.Restore -/
noncomputable def G49 : FuncId → FunA := fun g => bif Nat.beq g 55 then fixed_Coefficients else bif Nat.beq g 65 then fixed_Restore_1 else bif Nat.beq g 64 then fixed_Run else fun _ _ => none
theorem G49_55 : G49 55 = fixed_Coefficients := by kernel_rfl
theorem G49_65 : G49 65 = fixed_Restore_1 := by kernel_rfl
theorem G49_64 : G49 64 = fixed_Run := by kernel_rfl
def A49 : Ann := .two (.leaf) (.two (.two (.leaf) (.two (.two (.leaf) (.leaf)) (.leaf))) (.two (.leaf) (.two (.leaf) (.leaf))))
def R49 : Slots := [(4, .s), (5, .i .i64)]
noncomputable def fixed_Restore : FunA := denF Try.prog G49 Try.f49 A49 R49
theorem fixed_Restore_eq (p0 : SV) (p1 : SV) (μ : AMem) : fixed_Restore [.s p0, .s p1] μ =
  (lenS (.s p0)).bind fun l1 =>
  bif decide (((l1 : Nat) : Int) > 4) then
  (some (.tuple [.s .nilSlice, .s (.int .i64 1)], μ))
  else
  ((lenS (.s p0)).bind fun l2 =>
    (fixed_Coefficients [.s (.int .i64 ((l2 : Nat) : Int))] (μ.bump 5)).bind fun r3 =>
    asS r3.1 fun x4 =>
    ((r3.2.set (μ.next + 3) (rowObj [.nilSlice] 1 23 (some 1))).store (μ.next + 3) 0 0 [x4]).bind fun m5 =>
    (fixed_Run [.s p0, .s p1, .s (.func 65 [((μ.next + 3), 0, 0)])] m5).bind fun r6 =>
    extrK 0 r6.1 fun t7 =>
    asS t7 fun x8 =>
    extrK 1 r6.1 fun t9 =>
    asI .i64 t9 fun n10 =>
    some (.tuple [.s x8, .s (.int .i64 n10)], r6.2)) := by rw [← G49_55, ← G49_64]; kernel_rfl

/-! ### overdub/lpc.Restore -/
noncomputable def G51 : FuncId → FunA := fun g => bif Nat.beq g 68 then lpc_May else bif Nat.beq g 69 then lpc_Restore_1 else bif Nat.beq g 64 then fixed_Run else fun _ _ => none
theorem G51_68 : G51 68 = lpc_May := by kernel_rfl
theorem G51_69 : G51 69 = lpc_Restore_1 := by kernel_rfl
theorem G51_64 : G51 64 = fixed_Run := by kernel_rfl
def A51 : Ann := .two (.leaf) (.two (.join [(17, .b)] [0, 1, 5] [] (.leaf) (.two (.two (.leaf) (.leaf)) (.leaf))) (.two (.leaf) (.leaf)))
def R51 : Slots := [(6, .s), (7, .i .i64)]
noncomputable def lpc_Restore : FunA := denF Try.prog G51 Try.f51 A51 R51
theorem lpc_Restore_eq (p0 : SV) (p1 : SV) (p2 : SV) (μ : AMem) : lpc_Restore [.s p0, .s p1, .s p2] μ =
  seqJ
  ((((μ.bump 3).set (μ.next + 0) (rowObj [p2] 1 23 (some 1))).cell (μ.next + 0) 0 0).bind fun x1 =>
    (lpc_May [.s x1] ((μ.bump 3).set (μ.next + 0) (rowObj [p2] 1 23 (some 1)))).bind fun r2 =>
    asB r2.1 fun b3 =>
    bif !(!b3) then
    ((lenS (.s p0)).bind fun l4 =>
      (r2.2.cell (μ.next + 0) 0 0).bind fun x5 =>
      (lenS (.s x5)).bind fun l6 =>
      some (.normal, [.s (.bool (((l4 : Nat) : Int) != ((l6 : Nat) : Int)))], r2.2))
    else
    (some (.normal, [.s (.bool true)], r2.2)))
  (fun vs7 m8 =>
    headK vs7 fun a9 r10 =>
    asB a9 fun b11 =>
    bif b11 then
    (some (.tuple [.s .nilSlice, .s (.int .i64 1)], m8))
    else
    ((fixed_Run [.s p0, .s p1, .s (.func 69 [((μ.next + 0), 0, 0)])] m8).bind fun r12 =>
      extrK 0 r12.1 fun t13 =>
      asS t13 fun x14 =>
      extrK 1 r12.1 fun t15 =>
      asI .i64 t15 fun n16 =>
      some (.tuple [.s x14, .s (.int .i64 n16)], r12.2)))
  (fun vs17 m18 =>
    headK vs17 fun a22 r23 =>
    asS a22 fun x24 =>
    headK r23 fun a25 r26 =>
    asI .i64 a25 fun n27 =>
    some (.tuple [.s x24, .s (.int .i64 n27)], m18))
  (fun d21 vs19 m20 =>
    none) := by rw [← G51_68, ← G51_64]; kernel_rfl

/-! ### (*overdub/frame.reader).body -/
noncomputable def G38 : FuncId → FunA := fun g => bif Nat.beq g 48 then frame_reader_samples else bif Nat.beq g 50 then frame_reader_residuals else bif Nat.beq g 49 then fixed_Restore else bif Nat.beq g 37 then frame_reader_get else bif Nat.beq g 51 then lpc_Restore else fun _ _ => none
theorem G38_48 : G38 48 = frame_reader_samples := by kernel_rfl
theorem G38_50 : G38 50 = frame_reader_residuals := by kernel_rfl
theorem G38_49 : G38 49 = fixed_Restore := by kernel_rfl
theorem G38_37 : G38 37 = frame_reader_get := by kernel_rfl
theorem G38_51 : G38 51 = lpc_Restore := by kernel_rfl
def A38 : Ann := .two (.leaf) (.two (.join [] [] [] (.join [(12, .b)] [0, 1, 2] [] (.leaf) (.two (.two (.leaf) (.leaf)) (.two (.leaf) (.two (.two (.leaf) (.two (.join [(8, .s)] [] [] (.loop [(8, .s)] [2] [1] (.two (.two (.leaf) (.two (.leaf) (.leaf))) (.join [(2, .i .i64), (8, .s)] [] [] (.leaf) .leaf))) .leaf) (.two (.leaf) (.leaf)))) (.two (.leaf) (.two (.two (.leaf) (.leaf)) (.join [(41, .b)] [0, 1, 2] [] (.leaf) (.two (.two (.leaf) (.two (.leaf) (.leaf))) (.join [(68, .b)] [0, 1, 2] [] (.leaf) (.two (.two (.leaf) (.two (.leaf) (.two (.two (.leaf) (.join [(0, .s), (2, .i .i64), (10, .s), (11, .s)] [] [] (.loop [(11, .s), (87, .i .i64)] [0, 2, 10, 86] [3] (.two (.leaf) (.two (.two (.leaf) (.leaf)) (.two (.join [(0, .s), (2, .i .i64), (10, .s), (11, .s), (86, .i .i64), (87, .i .i64)] [] [] (.leaf) .leaf) (.leaf))))) .leaf)) (.two (.leaf) (.leaf))))) (.leaf))))))))))) .leaf) (.two (.leaf) (.leaf)))
def R38 : Slots := [(6, .s), (7, .i .i64)]
noncomputable def frame_reader_body : FunA := denF Try.prog G38 Try.f38 A38 R38
noncomputable def frame_reader_body_L2_B (os vs : List AV) (μ : AMem) : Option Res := joinK [(11, .s), (87, .i .i64)] vs (envO [0, 2, 10, 86] os) fun e => den Try.prog G38 Try.f38.ntmps (cL (cL (cR (cL (cR (cR (cL (cR (cR (cR (cR (cR (cR (cR (cR (cR (cL (cL (cR (bodyOf Try.f38)))))))))))))))))))) (aL (aL (aR (aL (aR (aR (aL (aR (aR (aR (aR (aR (aR (aR (aR (aR (aL (aL (aR A38))))))))))))))))))) { ret := R38, exits := [(3, [(0, .s), (2, .i .i64), (10, .s), (11, .s)]), (0, [])] } Res e μ fun ex e μ => some (ex, valsOf (Lv.at { ret := R38, exits := [(3, [(0, .s), (2, .i .i64), (10, .s), (11, .s)]), (0, [])] } [(11, .s), (87, .i .i64)] ex) e, μ)
noncomputable def frame_reader_body_L2 (os vs : List AV) (μ : AMem) : Option Res := loopA (frame_reader_body_L2_B os) vs μ
noncomputable def frame_reader_body_L1_B (os vs : List AV) (μ : AMem) : Option Res := joinK [(8, .s)] vs (envO [2] os) fun e => den Try.prog G38 Try.f38.ntmps (cL (cL (cL (cR (cL (cR (cR (cR (cL (cL (cR (bodyOf Try.f38)))))))))))) (aL (aL (aL (aR (aL (aR (aR (aR (aL (aL (aR A38))))))))))) { ret := R38, exits := [(1, [(8, .s)]), (0, [])] } Res e μ fun ex e μ => some (ex, valsOf (Lv.at { ret := R38, exits := [(1, [(8, .s)]), (0, [])] } [(8, .s)] ex) e, μ)
noncomputable def frame_reader_body_L1 (os vs : List AV) (μ : AMem) : Option Res := loopA (frame_reader_body_L1_B os) vs μ
theorem frame_reader_body_L2_B_eq (s0 t0 u0 : Nat) (s2 : Int) (s10 : SV) (s86 : Int) (s11 : SV) (s87 : Int) (μ : AMem) : frame_reader_body_L2_B [.s (.ptr s0 t0 u0), .s (.int .i64 s2), .s s10, .s (.int .i64 s86)] [.s s11, .s (.int .i64 s87)] μ =
  bif decide (s87 < s86) then
  ((frame_reader_get [.s (.ptr s0 t0 u0), .s (.int .i64 16)] (μ.bump 7)).bind fun r118 =>
    asI .i64 r118.1 fun n119 =>
    appendA 3 1 8 (μ.next + 5) (r118.2.set (μ.next + 4) (rowObj [.int .i64 (IntKind.wrap .i64 (n119 - 32768))] 1 3 (some 1))) (.s s11) (.s (.slice (μ.next + 4) 0 0 1)) fun x120 m121 =>
    asS x120 fun x122 =>
    some (.normal, [.s x122, .s (.int .i64 (IntKind.wrap .i64 (s87 + 1)))], m121))
  else
  (some (.exit 3, [.s (.ptr s0 t0 u0), .s (.int .i64 s2), .s s10, .s s11], μ)) := by rw [← G38_37]; kernel_rfl
theorem frame_reader_body_L2_eq (os vs : List AV) (μ : AMem) : frame_reader_body_L2 os vs μ = (frame_reader_body_L2_B os vs μ).bind fun r => match r.1 with | .normal => frame_reader_body_L2 os r.2.1 r.2.2 | _ => some r := loopA_eq _ _ _
theorem frame_reader_body_L1_B_eq (s2 : Int) (s8 : SV) (μ : AMem) : frame_reader_body_L1_B [.s (.int .i64 s2)] [.s s8] μ =
  (lenS (.s s8)).bind fun l111 =>
  bif decide (((l111 : Nat) : Int) < s2) then
  (indS 1 (.s s8) 0 fun p112 =>
    loadAt (μ.bump 7) p112 fun v113 =>
    asI .i64 v113 fun n114 =>
    appendA 3 1 8 (μ.next + 5) ((μ.bump 7).set (μ.next + 4) (rowObj [.int .i64 n114] 1 3 (some 1))) (.s s8) (.s (.slice (μ.next + 4) 0 0 1)) fun x115 m116 =>
    asS x115 fun x117 =>
    some (.normal, [.s x117], m116))
  else
  (some (.exit 1, [.s s8], μ)) := by kernel_rfl
theorem frame_reader_body_L1_eq (os vs : List AV) (μ : AMem) : frame_reader_body_L1 os vs μ = (frame_reader_body_L1_B os vs μ).bind fun r => match r.1 with | .normal => frame_reader_body_L1 os r.2.1 r.2.2 | _ => some r := loopA_eq _ _ _
theorem frame_reader_body_eq (p0 q0 o0 : Nat) (p1 : Int) (p2 : Int) (μ : AMem) : frame_reader_body [.s (.ptr p0 q0 o0), .s (.int .i64 p1), .s (.int .i64 p2)] μ =
  seqJ
  (bif !(decide (p2 < 1)) then
    (some (.normal, [.s (.bool (decide (p2 > 64)))], μ))
    else
    (some (.normal, [.s (.bool true)], μ)))
  (fun vs1 m2 =>
    headK vs1 fun a3 r4 =>
    asB a3 fun b5 =>
    bif b5 then
    (some (.tuple [.s .nilSlice, .s (.int .i64 2)], m2))
    else
    (bif (p1 == 0) then
      ((frame_reader_samples [.s (.ptr p0 q0 o0), .s (.int .i64 1)] m2).bind fun r6 =>
        asS r6.1 fun x7 =>
        seqJ (frame_reader_body_L1 [.s (.int .i64 p2)] [.s x7] r6.2)
        (fun _ _ => none)
        (fun vs8 m9 =>
          headK vs8 fun a13 r14 =>
          asS a13 fun x15 =>
          headK r14 fun a16 r17 =>
          asI .i64 a16 fun n18 =>
          some (.tuple [.s x15, .s (.int .i64 n18)], m9))
        (fun d12 vs10 m11 =>
          bif Nat.beq 1 d12 then (headK vs10 fun a19 r20 =>
            asS a19 fun x21 =>
            some (.tuple [.s x21, .s (.int .i64 0)], m11)) else (none)))
      else
      (bif (p1 == 1) then
        ((frame_reader_samples [.s (.ptr p0 q0 o0), .s (.int .i64 p2)] m2).bind fun r22 =>
          asS r22.1 fun x23 =>
          some (.tuple [.s x23, .s (.int .i64 0)], r22.2))
        else
        (seqJ
          (bif decide (p1 ≥ 2) then
            (bif decide (p1 ≤ 6) then
              (some (.normal, [.s (.bool (decide (p2 ≥ (IntKind.wrap .i64 (p1 - 2)))))], m2))
              else
              (some (.normal, [.s (.bool false)], m2)))
            else
            (some (.normal, [.s (.bool false)], m2)))
          (fun vs24 m25 =>
            headK vs24 fun a26 r27 =>
            asB a26 fun b28 =>
            bif b28 then
            ((frame_reader_samples [.s (.ptr p0 q0 o0), .s (.int .i64 (IntKind.wrap .i64 (p1 - 2)))] m25).bind fun r29 =>
              asS r29.1 fun x30 =>
              (lenS (.s x30)).bind fun l31 =>
              (frame_reader_residuals [.s (.ptr p0 q0 o0), .s (.int .i64 (IntKind.wrap .i64 (p2 - ((l31 : Nat) : Int))))] r29.2).bind fun r32 =>
              asS r32.1 fun x33 =>
              (fixed_Restore [.s x30, .s x33] r32.2).bind fun r34 =>
              extrK 0 r34.1 fun t35 =>
              asS t35 fun x36 =>
              extrK 1 r34.1 fun t37 =>
              asI .i64 t37 fun n38 =>
              some (.tuple [.s x36, .s (.int .i64 n38)], r34.2))
            else
            (seqJ
              (bif decide (p1 > 6) then
                (bif decide (p1 ≤ 18) then
                  (some (.normal, [.s (.bool (decide (p2 > (IntKind.wrap .i64 (p1 - 6)))))], m25))
                  else
                  (some (.normal, [.s (.bool false)], m25)))
                else
                (some (.normal, [.s (.bool false)], m25)))
              (fun vs39 m40 =>
                headK vs39 fun a41 r42 =>
                asB a41 fun b43 =>
                bif b43 then
                ((frame_reader_samples [.s (.ptr p0 q0 o0), .s (.int .i64 (IntKind.wrap .i64 (p1 - 6)))] m40).bind fun r44 =>
                  asS r44.1 fun x45 =>
                  (lenS (.s x45)).bind fun l46 =>
                  seqJ (frame_reader_body_L2 [.s (.ptr p0 q0 o0), .s (.int .i64 p2), .s x45, .s (.int .i64 ((l46 : Nat) : Int))] [.s .nilSlice, .s (.int .i64 0)] r44.2)
                  (fun _ _ => none)
                  (fun vs47 m48 =>
                    headK vs47 fun a52 r53 =>
                    asS a52 fun x54 =>
                    headK r53 fun a55 r56 =>
                    asI .i64 a55 fun n57 =>
                    some (.tuple [.s x54, .s (.int .i64 n57)], m48))
                  (fun d51 vs49 m50 =>
                    bif Nat.beq 3 d51 then (headK vs49 fun a58 r59 =>
                      asS a58 fun x60 =>
                      headK r59 fun a61 r62 =>
                      asI .i64 a61 fun n63 =>
                      headK r62 fun a64 r65 =>
                      asS a64 fun x66 =>
                      headK r65 fun a67 r68 =>
                      asS a67 fun x69 =>
                      (lenS (.s x66)).bind fun l70 =>
                      (frame_reader_residuals [.s x60, .s (.int .i64 (IntKind.wrap .i64 (n63 - ((l70 : Nat) : Int))))] m50).bind fun r71 =>
                      asS r71.1 fun x72 =>
                      (lpc_Restore [.s x66, .s x72, .s x69] r71.2).bind fun r73 =>
                      extrK 0 r73.1 fun t74 =>
                      asS t74 fun x75 =>
                      extrK 1 r73.1 fun t76 =>
                      asI .i64 t76 fun n77 =>
                      some (.tuple [.s x75, .s (.int .i64 n77)], r73.2)) else (none)))
                else
                (some (.tuple [.s .nilSlice, .s (.int .i64 2)], m40)))
              (fun vs78 m79 =>
                headK vs78 fun a83 r84 =>
                asS a83 fun x85 =>
                headK r84 fun a86 r87 =>
                asI .i64 a86 fun n88 =>
                some (.tuple [.s x85, .s (.int .i64 n88)], m79))
              (fun d82 vs80 m81 =>
                none)))
          (fun vs89 m90 =>
            headK vs89 fun a94 r95 =>
            asS a94 fun x96 =>
            headK r95 fun a97 r98 =>
            asI .i64 a97 fun n99 =>
            some (.tuple [.s x96, .s (.int .i64 n99)], m90))
          (fun d93 vs91 m92 =>
            none)))))
  (fun vs100 m101 =>
    headK vs100 fun a105 r106 =>
    asS a105 fun x107 =>
    headK r106 fun a108 r109 =>
    asI .i64 a108 fun n110 =>
    some (.tuple [.s x107, .s (.int .i64 n110)], m101))
  (fun d104 vs102 m103 =>
    none) := by rw [← G38_48, ← G38_50, ← G38_49, ← G38_51]; kernel_rfl

/-! ### (*overdub/bits.Reader).Rest -/
noncomputable def G39 : FuncId → FunA := fun g => bif Nat.beq g 52 then bits_Reader_Left else bif Nat.beq g 53 then bits_Reader_digit else fun _ _ => none
theorem G39_52 : G39 52 = bits_Reader_Left := by kernel_rfl
theorem G39_53 : G39 53 = bits_Reader_digit := by kernel_rfl
def A39 : Ann := .two (.leaf) (.two (.two (.leaf) (.join [] [] [] (.loop [(6, .i .i64)] [0, 5] [0] (.two (.leaf) (.two (.two (.leaf) (.leaf)) (.two (.join [(0, .s), (5, .i .i64), (6, .i .i64)] [] [] (.two (.leaf) (.two (.leaf) (.two (.two (.leaf) (.leaf)) (.leaf)))) .leaf) (.leaf))))) .leaf)) (.two (.leaf) (.leaf)))
def R39 : Slots := [(2, .b)]
noncomputable def bits_Reader_Rest : FunA := denF Try.prog G39 Try.f39 A39 R39
noncomputable def bits_Reader_Rest_L1_B (os vs : List AV) (μ : AMem) : Option Res := joinK [(6, .i .i64)] vs (envO [0, 5] os) fun e => den Try.prog G39 Try.f39.ntmps (cL (cL (cR (cL (cR (bodyOf Try.f39)))))) (aL (aL (aR (aL (aR A39))))) { ret := R39, exits := [(0, [])] } Res e μ fun ex e μ => some (ex, valsOf (Lv.at { ret := R39, exits := [(0, [])] } [(6, .i .i64)] ex) e, μ)
noncomputable def bits_Reader_Rest_L1 (os vs : List AV) (μ : AMem) : Option Res := loopA (bits_Reader_Rest_L1_B os) vs μ
theorem bits_Reader_Rest_L1_B_eq (s0 t0 u0 : Nat) (s5 : Int) (s6 : Int) (μ : AMem) : bits_Reader_Rest_L1_B [.s (.ptr s0 t0 u0), .s (.int .i64 s5)] [.s (.int .i64 s6)] μ =
  bif decide (s6 < s5) then
  ((bits_Reader_digit [.s (.ptr s0 t0 u0), .s (.int .i64 s6)] μ).bind fun r11 =>
    asI .i64 r11.1 fun n12 =>
    bif (n12 == 1) then
    (some (.ret, [.s (.bool false)], r11.2))
    else
    (some (.normal, [.s (.int .i64 (IntKind.wrap .i64 (s6 + 1)))], r11.2)))
  else
  (some (.exit 0, [], μ)) := by rw [← G39_53]; kernel_rfl
theorem bits_Reader_Rest_L1_eq (os vs : List AV) (μ : AMem) : bits_Reader_Rest_L1 os vs μ = (bits_Reader_Rest_L1_B os vs μ).bind fun r => match r.1 with | .normal => bits_Reader_Rest_L1 os r.2.1 r.2.2 | _ => some r := loopA_eq _ _ _
theorem bits_Reader_Rest_eq (p0 q0 o0 : Nat) (μ : AMem) : bits_Reader_Rest [.s (.ptr p0 q0 o0)] μ =
  (bits_Reader_Left [.s (.ptr p0 q0 o0)] μ).bind fun r1 =>
  asI .i64 r1.1 fun n2 =>
  seqJ (bits_Reader_Rest_L1 [.s (.ptr p0 q0 o0), .s (.int .i64 n2)] [.s (.int .i64 0)] r1.2)
  (fun _ _ => none)
  (fun vs3 m4 =>
    headK vs3 fun a8 r9 =>
    asB a8 fun b10 =>
    some (.s (.bool b10), m4))
  (fun d7 vs5 m6 =>
    bif Nat.beq 0 d7 then (some (.s (.bool true), m6)) else (none)) := by rw [← G39_52]; kernel_rfl

/-! ### overdub/frame.Decode -/
noncomputable def G27 : FuncId → FunA := fun g => bif Nat.beq g 36 then bits_NewReader else bif Nat.beq g 37 then frame_reader_get else bif Nat.beq g 38 then frame_reader_body else bif Nat.beq g 39 then bits_Reader_Rest else fun _ _ => none
theorem G27_36 : G27 36 = bits_NewReader := by kernel_rfl
theorem G27_37 : G27 37 = frame_reader_get := by kernel_rfl
theorem G27_38 : G27 38 = frame_reader_body := by kernel_rfl
theorem G27_39 : G27 39 = bits_Reader_Rest := by kernel_rfl
def A27 : Ann := .two (.leaf) (.two (.leaf) (.two (.leaf) (.two (.leaf) (.two (.join [(39, .b)] [7] [] (.leaf) (.two (.two (.leaf) (.leaf)) (.leaf))) (.two (.leaf) (.leaf))))))
def R27 : Slots := [(2, .s), (3, .i .i64)]
noncomputable def frame_Decode : FunA := denF Try.prog G27 Try.f27 A27 R27
theorem frame_Decode_eq (p0 : SV) (μ : AMem) : frame_Decode [.s p0] μ =
  (bits_NewReader [.s p0] (μ.bump 5)).bind fun r1 =>
  asS r1.1 fun x2 =>
  (frame_reader_get [.s (.ptr (μ.next + 3) 0 0), .s (.int .i64 8)] (r1.2.set (μ.next + 3) (rowObj [x2, .bool false] 2 90 (some 1)))).bind fun r3 =>
  asI .i64 r3.1 fun n4 =>
  (frame_reader_get [.s (.ptr (μ.next + 3) 0 0), .s (.int .i64 8)] r3.2).bind fun r5 =>
  asI .i64 r5.1 fun n6 =>
  (frame_reader_body [.s (.ptr (μ.next + 3) 0 0), .s (.int .i64 n4), .s (.int .i64 n6)] r5.2).bind fun r7 =>
  extrK 0 r7.1 fun t8 =>
  asS t8 fun x9 =>
  extrK 1 r7.1 fun t10 =>
  asI .i64 t10 fun n11 =>
  seqJ
  ((r7.2.cell (μ.next + 3) 0 (0 + 1)).bind fun x12 =>
    asB (.s x12) fun b13 =>
    bif !b13 then
    (bif !(n11 != 0) then
      ((r7.2.cell (μ.next + 3) 0 (0 + 0)).bind fun x14 =>
        (bits_Reader_Rest [.s x14] r7.2).bind fun r15 =>
        asB r15.1 fun b16 =>
        some (.normal, [.s (.bool (!b16))], r15.2))
      else
      (some (.normal, [.s (.bool true)], r7.2)))
    else
    (some (.normal, [.s (.bool true)], r7.2)))
  (fun vs17 m18 =>
    headK vs17 fun a19 r20 =>
    asB a19 fun b21 =>
    bif b21 then
    (some (.tuple [.s .nilSlice, .s (.int .i64 2)], m18))
    else
    (some (.tuple [.s x9, .s (.int .i64 0)], m18)))
  (fun vs22 m23 =>
    headK vs22 fun a27 r28 =>
    asS a27 fun x29 =>
    headK r28 fun a30 r31 =>
    asI .i64 a30 fun n32 =>
    some (.tuple [.s x29, .s (.int .i64 n32)], m23))
  (fun d26 vs24 m25 =>
    none) := by rw [← G27_36, ← G27_37, ← G27_38, ← G27_39]; kernel_rfl

/-! ### (*overdub/block.Coder).Open -/
noncomputable def G19 : FuncId → FunA := fun g => bif Nat.beq g 26 then block_Coder_unseal else bif Nat.beq g 27 then frame_Decode else bif Nat.beq g 24 then atomic_Int64_Add else fun _ _ => none
theorem G19_26 : G19 26 = block_Coder_unseal := by kernel_rfl
theorem G19_27 : G19 27 = frame_Decode := by kernel_rfl
theorem G19_24 : G19 24 = atomic_Int64_Add := by kernel_rfl
def A19 : Ann := .two (.leaf) (.two (.leaf) (.two (.two (.leaf) (.two (.two (.leaf) (.leaf)) (.leaf))) (.two (.leaf) (.join [] [7, 8] [] (.two (.leaf) (.two (.leaf) (.leaf))) (.two (.leaf) (.leaf))))))
def R19 : Slots := [(4, .s), (5, .i .i64)]
noncomputable def block_Coder_Open : FunA := denF Try.prog G19 Try.f19 A19 R19
theorem block_Coder_Open_eq (p0 q0 o0 : Nat) (p1 : SV) (μ : AMem) : block_Coder_Open [.s (.ptr p0 q0 o0), .s p1] μ =
  (block_Coder_unseal [.s (.ptr p0 q0 o0), .s p1] μ).bind fun r1 =>
  extrK 0 r1.1 fun t2 =>
  asS t2 fun x3 =>
  extrK 1 r1.1 fun t4 =>
  asI .i64 t4 fun n5 =>
  bif (n5 != 0) then
  (some (.tuple [.s .nilSlice, .s (.int .i64 n5)], r1.2))
  else
  ((frame_Decode [.s x3] r1.2).bind fun r6 =>
    extrK 0 r6.1 fun t7 =>
    asS t7 fun x8 =>
    extrK 1 r6.1 fun t9 =>
    asI .i64 t9 fun n10 =>
    seqJ
    (bif (n10 == 0) then
      ((atomic_Int64_Add [.s (.ptr p0 q0 (o0 + 2)), .s (.int .i64 1)] r6.2).bind fun r11 =>
        asI .i64 r11.1 fun n12 =>
        some (.normal, [], r11.2))
      else
      (some (.normal, [], r6.2)))
    (fun vs13 m14 =>
      some (.tuple [.s x8, .s (.int .i64 n10)], m14))
    (fun vs15 m16 =>
      headK vs15 fun a20 r21 =>
      asS a20 fun x22 =>
      headK r21 fun a23 r24 =>
      asI .i64 a23 fun n25 =>
      some (.tuple [.s x22, .s (.int .i64 n25)], m16))
    (fun d19 vs17 m18 =>
      none)) := by rw [← G19_26, ← G19_27, ← G19_24]; kernel_rfl

/-! ### overdub/overdubkeep.Same[int] -/
noncomputable def G20 : FuncId → FunA := fun _ _ _ => none
def A20 : Ann := .two (.leaf) (.two (.two (.leaf) (.two (.two (.leaf) (.leaf)) (.leaf))) (.two (.two (.leaf) (.join [] [] [] (.loop [(5, .i .i64)] [0, 1] [0] (.two (.two (.leaf) (.two (.leaf) (.leaf))) (.two (.join [(0, .s), (1, .s), (5, .i .i64)] [] [] (.two (.ord [0, 1, 2, 3, 4, 5, 6, 7, 8]) (.two (.two (.leaf) (.leaf)) (.leaf))) .leaf) (.leaf)))) .leaf)) (.two (.leaf) (.leaf))))
def R20 : Slots := [(4, .b)]
noncomputable def overdubkeep_Same_int : FunA := denF Try.prog G20 Try.f20 A20 R20
noncomputable def overdubkeep_Same_int_L1_B (os vs : List AV) (μ : AMem) : Option Res := joinK [(5, .i .i64)] vs (envO [0, 1] os) fun e => den Try.prog G20 Try.f20.ntmps (cL (cL (cR (cL (cR (cR (bodyOf Try.f20))))))) (aL (aL (aR (aL (aR (aR A20)))))) { ret := R20, exits := [(0, [])] } Res e μ fun ex e μ => some (ex, valsOf (Lv.at { ret := R20, exits := [(0, [])] } [(5, .i .i64)] ex) e, μ)
noncomputable def overdubkeep_Same_int_L1 (os vs : List AV) (μ : AMem) : Option Res := loopA (overdubkeep_Same_int_L1_B os) vs μ
theorem overdubkeep_Same_int_L1_B_eq (s0 : SV) (s1 : SV) (s5 : Int) (μ : AMem) : overdubkeep_Same_int_L1_B [.s s0, .s s1] [.s (.int .i64 s5)] μ =
  (lenS (.s s0)).bind fun l11 =>
  bif decide (s5 < ((l11 : Nat) : Int)) then
  (indS 1 (.s s0) s5 fun p12 =>
    loadAt μ p12 fun v13 =>
    asI .i64 v13 fun n14 =>
    indS 1 (.s s1) s5 fun p15 =>
    loadAt μ p15 fun v16 =>
    asI .i64 v16 fun n17 =>
    bif (n14 != n17) then
    (some (.ret, [.s (.bool false)], μ))
    else
    (some (.normal, [.s (.int .i64 (IntKind.wrap .i64 (s5 + 1)))], μ)))
  else
  (some (.exit 0, [], μ)) := by kernel_rfl
theorem overdubkeep_Same_int_L1_eq (os vs : List AV) (μ : AMem) : overdubkeep_Same_int_L1 os vs μ = (overdubkeep_Same_int_L1_B os vs μ).bind fun r => match r.1 with | .normal => overdubkeep_Same_int_L1 os r.2.1 r.2.2 | _ => some r := loopA_eq _ _ _
theorem overdubkeep_Same_int_eq (p0 : SV) (p1 : SV) (μ : AMem) : overdubkeep_Same_int [.s p0, .s p1] μ =
  (lenS (.s p0)).bind fun l1 =>
  (lenS (.s p1)).bind fun l2 =>
  bif (((l1 : Nat) : Int) != ((l2 : Nat) : Int)) then
  (some (.s (.bool false), μ))
  else
  (seqJ (overdubkeep_Same_int_L1 [.s p0, .s p1] [.s (.int .i64 0)] μ)
    (fun _ _ => none)
    (fun vs3 m4 =>
      headK vs3 fun a8 r9 =>
      asB a8 fun b10 =>
      some (.s (.bool b10), m4))
    (fun d7 vs5 m6 =>
      bif Nat.beq 0 d7 then (some (.s (.bool true), m6)) else (none))) := by kernel_rfl

/-! ### overdub/overdublaw09.BlockMost -/
noncomputable def G5 : FuncId → FunA := fun g => bif Nat.beq g 7 then overdublaw08_Tone else bif Nat.beq g 8 then overdubkeep_Samples else bif Nat.beq g 9 then block_New else bif Nat.beq g 11 then block_Coder_Pack else bif Nat.beq g 13 then overdublaw09_wakes else bif Nat.beq g 19 then block_Coder_Open else bif Nat.beq g 20 then overdubkeep_Same_int else bif Nat.beq g 21 then frame_Encode else fun _ _ => none
theorem G5_7 : G5 7 = overdublaw08_Tone := by kernel_rfl
theorem G5_8 : G5 8 = overdubkeep_Samples := by kernel_rfl
theorem G5_9 : G5 9 = block_New := by kernel_rfl
theorem G5_11 : G5 11 = block_Coder_Pack := by kernel_rfl
theorem G5_13 : G5 13 = overdublaw09_wakes := by kernel_rfl
theorem G5_19 : G5 19 = block_Coder_Open := by kernel_rfl
theorem G5_20 : G5 20 = overdubkeep_Same_int := by kernel_rfl
theorem G5_21 : G5 21 = frame_Encode := by kernel_rfl
def A5 : Ann := .two (.leaf) (.join [(0, .s)] [] [] (.two (.leaf) (.two (.leaf) (.leaf))) (.two (.leaf) (.two (.two (.leaf) (.two (.two (.leaf) (.leaf)) (.leaf))) (.two (.leaf) (.two (.two (.leaf) (.two (.two (.leaf) (.leaf)) (.leaf))) (.two (.join [(70, .b)] [0, 9, 10, 11] [] (.leaf) (.two (.two (.leaf) (.leaf)) (.leaf))) (.two (.leaf) (.two (.join [(86, .b)] [0, 11] [] (.leaf) (.two (.two (.leaf) (.leaf)) (.leaf))) (.two (.two (.leaf) (.join [] [] [] (.loop [(15, .i .i64)] [0] [0] (.two (.join [(96, .b)] [0, 15] [] (.leaf) (.two (.leaf) (.leaf))) (.two (.join [(0, .s), (15, .i .i64)] [] [] (.two (.leaf) (.join [(112, .b)] [0, 15] [] (.leaf) (.two (.two (.leaf) (.leaf)) (.leaf)))) .leaf) (.leaf)))) .leaf)) (.two (.leaf) (.leaf)))))))))))
def R5 : Slots := [(8, .b)]
noncomputable def overdublaw09_BlockMost : FunA := denF Try.prog G5 Try.f5 A5 R5
noncomputable def overdublaw09_BlockMost_L1_B (os vs : List AV) (μ : AMem) : Option Res := joinK [(15, .i .i64)] vs (envO [0] os) fun e => den Try.prog G5 Try.f5.ntmps (cL (cL (cR (cL (cR (cR (cR (cR (cR (cR (cR (cR (cR (bodyOf Try.f5)))))))))))))) (aL (aL (aR (aL (aR (aR (aR (aR (aR (aR (aR (aR (aR A5))))))))))))) { ret := R5, exits := [(0, [])] } Res e μ fun ex e μ => some (ex, valsOf (Lv.at { ret := R5, exits := [(0, [])] } [(15, .i .i64)] ex) e, μ)
noncomputable def overdublaw09_BlockMost_L1 (os vs : List AV) (μ : AMem) : Option Res := loopA (overdublaw09_BlockMost_L1_B os) vs μ
theorem overdublaw09_BlockMost_L1_B_eq (s0 : SV) (s15 : Int) (μ : AMem) : overdublaw09_BlockMost_L1_B [.s s0] [.s (.int .i64 s15)] μ =
  seqJ
  ((lenS (.s s0)).bind fun l78 =>
    bif decide (s15 ≤ ((l78 : Nat) : Int)) then
    (some (.normal, [.s (.bool (decide (s15 ≤ 64)))], μ))
    else
    (some (.normal, [.s (.bool false)], μ)))
  (fun vs79 m80 =>
    headK vs79 fun a81 r82 =>
    asB a81 fun b83 =>
    bif b83 then
    (cutS 1 (.s s0) 0 s15 fun x84 =>
      (frame_Encode [x84] m80).bind fun r85 =>
      extrK 0 r85.1 fun t86 =>
      asS t86 fun x87 =>
      extrK 1 r85.1 fun t88 =>
      asI .i64 t88 fun n89 =>
      seqJ
      (bif !(n89 != 0) then
        ((lenS (.s x87)).bind fun l90 =>
          some (.normal, [.s (.bool (decide (((l90 : Nat) : Int) ≤ 124)))], r85.2))
        else
        (some (.normal, [.s (.bool true)], r85.2)))
      (fun vs91 m92 =>
        headK vs91 fun a93 r94 =>
        asB a93 fun b95 =>
        bif b95 then
        (some (.ret, [.s (.bool false)], m92))
        else
        (some (.normal, [.s (.int .i64 (IntKind.wrap .i64 (s15 + 1)))], m92)))
      (fun vs96 m97 =>
        headK vs96 fun a101 r102 =>
        asB a101 fun b103 =>
        some (.ret, [.s (.bool b103)], m97))
      (fun d100 vs98 m99 =>
        none))
    else
    (some (.exit 0, [], m80)))
  (fun vs104 m105 =>
    headK vs104 fun a109 r110 =>
    asB a109 fun b111 =>
    some (.ret, [.s (.bool b111)], m105))
  (fun d108 vs106 m107 =>
    none) := by rw [← G5_21]; kernel_rfl
theorem overdublaw09_BlockMost_L1_eq (os vs : List AV) (μ : AMem) : overdublaw09_BlockMost_L1 os vs μ = (overdublaw09_BlockMost_L1_B os vs μ).bind fun r => match r.1 with | .normal => overdublaw09_BlockMost_L1 os r.2.1 r.2.2 | _ => some r := loopA_eq _ _ _
theorem overdublaw09_BlockMost_eq (p0 : SV) (p1 : Int) (p2 : Int) (p3 : Int) (μ : AMem) : overdublaw09_BlockMost [.s p0, .s (.int .i64 p1), .s (.int .i64 p2), .s (.int .i64 p3)] μ =
  seqJ
  (bif ((Int.tmod p1 3) != 0) then
    ((overdublaw08_Tone [.s p0, .s (.int .i64 p3), .s (.int .i64 p1), .s (.int .i64 p2)] μ).bind fun r1 =>
      asS r1.1 fun x2 =>
      some (.normal, [.s x2], r1.2))
    else
    ((overdubkeep_Samples [.s p0, .s (.int .i64 80), .s (.bool false)] μ).bind fun r3 =>
      asS r3.1 fun x4 =>
      some (.normal, [.s x4], r3.2)))
  (fun vs5 m6 =>
    headK vs5 fun a7 r8 =>
    asS a7 fun x9 =>
    (block_New [] m6).bind fun r10 =>
    asS r10.1 fun x11 =>
    (isNil (.s x11)).bind fun b12 =>
    bif b12 then
    (some (.s (.bool false), r10.2))
    else
    ((block_Coder_Pack [.s x11, .s x9] r10.2).bind fun r13 =>
      extrK 0 r13.1 fun t14 =>
      asS t14 fun x15 =>
      extrK 1 r13.1 fun t16 =>
      asI .i64 t16 fun n17 =>
      extrK 2 r13.1 fun t18 =>
      asI .i64 t18 fun n19 =>
      (lenS (.s x9)).bind fun l20 =>
      bif (((l20 : Nat) : Int) == 0) then
      (bif (n19 == 4) then
        (bif (n17 == 0) then
          ((lenS (.s x15)).bind fun l21 =>
            bif (((l21 : Nat) : Int) == 0) then
            ((overdublaw09_wakes [] r13.2).bind fun r22 =>
              asB r22.1 fun b23 =>
              some (.s (.bool b23), r22.2))
            else
            (some (.s (.bool false), r13.2)))
          else
          (some (.s (.bool false), r13.2)))
        else
        (some (.s (.bool false), r13.2)))
      else
      (seqJ
        (bif !(n19 != 0) then
          ((lenS (.s x9)).bind fun l24 =>
            bif !(decide (n17 < (if 40 < ((l24 : Nat) : Int) then 40 else ((l24 : Nat) : Int)))) then
            ((lenS (.s x9)).bind fun l25 =>
              some (.normal, [.s (.bool (decide (n17 > (if 64 < ((l25 : Nat) : Int) then 64 else ((l25 : Nat) : Int)))))], r13.2))
            else
            (some (.normal, [.s (.bool true)], r13.2)))
          else
          (some (.normal, [.s (.bool true)], r13.2)))
        (fun vs26 m27 =>
          headK vs26 fun a28 r29 =>
          asB a28 fun b30 =>
          bif b30 then
          (some (.s (.bool false), m27))
          else
          ((block_Coder_Open [.s x11, .s x15] m27).bind fun r31 =>
            extrK 0 r31.1 fun t32 =>
            asS t32 fun x33 =>
            extrK 1 r31.1 fun t34 =>
            asI .i64 t34 fun n35 =>
            seqJ
            (bif !(n35 != 0) then
              (cutS 1 (.s x9) 0 n17 fun x36 =>
                (overdubkeep_Same_int [.s x33, x36] r31.2).bind fun r37 =>
                asB r37.1 fun b38 =>
                some (.normal, [.s (.bool (!b38))], r37.2))
              else
              (some (.normal, [.s (.bool true)], r31.2)))
            (fun vs39 m40 =>
              headK vs39 fun a41 r42 =>
              asB a41 fun b43 =>
              bif b43 then
              (some (.s (.bool false), m40))
              else
              (seqJ (overdublaw09_BlockMost_L1 [.s x9] [.s (.int .i64 (IntKind.wrap .i64 (n17 + 1)))] m40)
                (fun _ _ => none)
                (fun vs44 m45 =>
                  headK vs44 fun a49 r50 =>
                  asB a49 fun b51 =>
                  some (.s (.bool b51), m45))
                (fun d48 vs46 m47 =>
                  bif Nat.beq 0 d48 then ((overdublaw09_wakes [] m47).bind fun r52 =>
                    asB r52.1 fun b53 =>
                    some (.s (.bool b53), r52.2)) else (none))))
            (fun vs54 m55 =>
              headK vs54 fun a59 r60 =>
              asB a59 fun b61 =>
              some (.s (.bool b61), m55))
            (fun d58 vs56 m57 =>
              none)))
        (fun vs62 m63 =>
          headK vs62 fun a67 r68 =>
          asB a67 fun b69 =>
          some (.s (.bool b69), m63))
        (fun d66 vs64 m65 =>
          none))))
  (fun vs70 m71 =>
    headK vs70 fun a75 r76 =>
    asB a75 fun b77 =>
    some (.s (.bool b77), m71))
  (fun d74 vs72 m73 =>
    none) := by rw [← G5_7, ← G5_8, ← G5_9, ← G5_11, ← G5_13, ← G5_19, ← G5_20]; kernel_rfl

/-! ### overdub/overdublaw09.BlockBursts -/
noncomputable def G6 : FuncId → FunA := fun g => bif Nat.beq g 17 then overdubkeep_Within else bif Nat.beq g 7 then overdublaw08_Tone else bif Nat.beq g 9 then block_New else bif Nat.beq g 11 then block_Coder_Pack else bif Nat.beq g 13 then overdublaw09_wakes else bif Nat.beq g 19 then block_Coder_Open else bif Nat.beq g 16 then block_Coder_Unseal else fun _ _ => none
theorem G6_17 : G6 17 = overdubkeep_Within := by kernel_rfl
theorem G6_7 : G6 7 = overdublaw08_Tone := by kernel_rfl
theorem G6_9 : G6 9 = block_New := by kernel_rfl
theorem G6_11 : G6 11 = block_Coder_Pack := by kernel_rfl
theorem G6_13 : G6 13 = overdublaw09_wakes := by kernel_rfl
theorem G6_19 : G6 19 = block_Coder_Open := by kernel_rfl
theorem G6_16 : G6 16 = block_Coder_Unseal := by kernel_rfl
def A6 : Ann := .two (.leaf) (.two (.leaf) (.two (.leaf) (.two (.two (.leaf) (.two (.two (.leaf) (.leaf)) (.leaf))) (.two (.leaf) (.two (.join [(49, .b)] [4, 5, 13, 14] [] (.leaf) (.two (.two (.leaf) (.leaf)) (.leaf))) (.two (.two (.leaf) (.two (.two (.leaf) (.leaf)) (.leaf))) (.two (.leaf) (.two (.two (.leaf) (.join [(13, .s), (14, .s)] [] [] (.loop [(17, .i .i64)] [4, 5, 13, 14] [0] (.two (.two (.leaf) (.two (.leaf) (.leaf))) (.join [] [4, 5, 13, 14, 17] [] (.join [(4, .i .i64), (5, .i .u32), (13, .s), (14, .s), (17, .i .i64)] [] [] (.two (.leaf) (.two (.leaf) (.leaf))) .leaf) (.leaf)))) .leaf)) (.two (.leaf) (.two (.leaf) (.two (.leaf) (.leaf))))))))))))
def R6 : Slots := [(12, .b)]
noncomputable def overdublaw09_BlockBursts : FunA := denF Try.prog G6 Try.f6 A6 R6
noncomputable def overdublaw09_BlockBursts_L1_B (os vs : List AV) (μ : AMem) : Option Res := joinK [(17, .i .i64)] vs (envO [4, 5, 13, 14] os) fun e => den Try.prog G6 Try.f6.ntmps (cL (cL (cR (cL (cR (cR (cR (cR (cR (cR (cR (cR (bodyOf Try.f6))))))))))))) (aL (aL (aR (aL (aR (aR (aR (aR (aR (aR (aR (aR A6)))))))))))) { ret := R6, exits := [(0, [(13, .s), (14, .s)])] } Res e μ fun ex e μ => some (ex, valsOf (Lv.at { ret := R6, exits := [(0, [(13, .s), (14, .s)])] } [(17, .i .i64)] ex) e, μ)
noncomputable def overdublaw09_BlockBursts_L1 (os vs : List AV) (μ : AMem) : Option Res := loopA (overdublaw09_BlockBursts_L1_B os) vs μ
theorem overdublaw09_BlockBursts_L1_B_eq (s4 : Int) (s5 : Int) (s13 : SV) (s14 : SV) (s17 : Int) (μ : AMem) : overdublaw09_BlockBursts_L1_B [.s (.int .i64 s4), .s (.int .u32 s5), .s s13, .s s14] [.s (.int .i64 s17)] μ =
  bif decide (s17 < 32) then
  (seqJ
    (if (IntKind.wrap .u64 s17) < 0 then none else
      (bif ((IntKind.wrap .u32 (BitVec.toNat ((BitVec.ofInt (IntKind.bits .u32) (Int.fdiv s5 (2 ^ (min (Int.toNat (IntKind.wrap .u64 s17)) (IntKind.bits .u32))))) &&& (BitVec.ofInt (IntKind.bits .u32) 1)))) == 1) then
        (indS 1 (.s s14) (IntKind.wrap .i64 (Int.tdiv (IntKind.wrap .i64 (s4 + s17)) 8)) fun p61 =>
          loadAt μ p61 fun v62 =>
          asI .u8 v62 fun n63 =>
          if (IntKind.wrap .u64 (Int.tmod (IntKind.wrap .i64 (s4 + s17)) 8)) < 0 then none else
          (indS 1 (.s s14) (IntKind.wrap .i64 (Int.tdiv (IntKind.wrap .i64 (s4 + s17)) 8)) fun p64 =>
            storeAt 1 μ p64 (.s (.int .u8 (IntKind.wrap .u8 (BitVec.toNat ((BitVec.ofInt (IntKind.bits .u8) n63) ^^^ (BitVec.ofInt (IntKind.bits .u8) (Int.fdiv 128 (2 ^ (min (Int.toNat (IntKind.wrap .u64 (Int.tmod (IntKind.wrap .i64 (s4 + s17)) 8))) (IntKind.bits .u8)))))))))) fun m65 =>
            some (.normal, [], m65)))
        else
        (some (.normal, [], μ))))
    (fun vs66 m67 =>
      some (.normal, [.s (.int .i64 (IntKind.wrap .i64 (s17 + 1)))], m67))
    (fun vs68 m69 =>
      headK vs68 fun a73 r74 =>
      asB a73 fun b75 =>
      some (.ret, [.s (.bool b75)], m69))
    (fun d72 vs70 m71 =>
      none))
  else
  (some (.exit 0, [.s s13, .s s14], μ)) := by kernel_rfl
theorem overdublaw09_BlockBursts_L1_eq (os vs : List AV) (μ : AMem) : overdublaw09_BlockBursts_L1 os vs μ = (overdublaw09_BlockBursts_L1_B os vs μ).bind fun r => match r.1 with | .normal => overdublaw09_BlockBursts_L1 os r.2.1 r.2.2 | _ => some r := loopA_eq _ _ _
theorem overdublaw09_BlockBursts_eq (p0 : SV) (p1 : Int) (p2 : Int) (p3 : Int) (p4 : Int) (p5 : Int) (μ : AMem) : overdublaw09_BlockBursts [.s p0, .s (.int .i64 p1), .s (.int .i64 p2), .s (.int .i64 p3), .s (.int .i64 p4), .s (.int .u32 p5)] μ =
  (overdubkeep_Within [.s (.int .i64 p1), .s (.int .i64 64)] μ).bind fun r1 =>
  asI .i64 r1.1 fun n2 =>
  (overdublaw08_Tone [.s p0, .s (.int .i64 (IntKind.wrap .i64 (1 + n2))), .s (.int .i64 p2), .s (.int .i64 p3)] r1.2).bind fun r3 =>
  asS r3.1 fun x4 =>
  (block_New [] r3.2).bind fun r5 =>
  asS r5.1 fun x6 =>
  (isNil (.s x6)).bind fun b7 =>
  bif b7 then
  (some (.s (.bool false), r5.2))
  else
  ((block_Coder_Pack [.s x6, .s x4] r5.2).bind fun r8 =>
    extrK 0 r8.1 fun t9 =>
    asS t9 fun x10 =>
    extrK 1 r8.1 fun t11 =>
    asI .i64 t11 fun n12 =>
    extrK 2 r8.1 fun t13 =>
    asI .i64 t13 fun n14 =>
    seqJ
    (bif !(n14 != 0) then
      (bif !(decide (n12 < 1)) then
        ((lenS (.s x10)).bind fun l15 =>
          some (.normal, [.s (.bool (((l15 : Nat) : Int) != 128))], r8.2))
        else
        (some (.normal, [.s (.bool true)], r8.2)))
      else
      (some (.normal, [.s (.bool true)], r8.2)))
    (fun vs16 m17 =>
      headK vs16 fun a18 r19 =>
      asB a18 fun b20 =>
      bif b20 then
      (some (.s (.bool false), m17))
      else
      (bif (p5 == 0) then
        ((overdublaw09_wakes [] m17).bind fun r21 =>
          asB r21.1 fun b22 =>
          some (.s (.bool b22), r21.2))
        else
        ((overdubkeep_Within [.s (.int .i64 p4), .s (.int .i64 993)] m17).bind fun r23 =>
          asI .i64 r23.1 fun n24 =>
          seqJ (overdublaw09_BlockBursts_L1 [.s (.int .i64 n24), .s (.int .u32 p5), .s x6, .s x10] [.s (.int .i64 0)] r23.2)
          (fun _ _ => none)
          (fun vs25 m26 =>
            headK vs25 fun a30 r31 =>
            asB a30 fun b32 =>
            some (.s (.bool b32), m26))
          (fun d29 vs27 m28 =>
            bif Nat.beq 0 d29 then (headK vs27 fun a33 r34 =>
              asS a33 fun x35 =>
              headK r34 fun a36 r37 =>
              asS a36 fun x38 =>
              (block_Coder_Open [.s x35, .s x38] m28).bind fun r39 =>
              extrK 0 r39.1 fun t40 =>
              asS t40 fun x41 =>
              extrK 1 r39.1 fun t42 =>
              asI .i64 t42 fun n43 =>
              (block_Coder_Unseal [.s x35, .s x38] r39.2).bind fun r44 =>
              extrK 0 r44.1 fun t45 =>
              asS t45 fun x46 =>
              extrK 1 r44.1 fun t47 =>
              asI .i64 t47 fun n48 =>
              bif (n43 == 2) then
              (bif (n48 == 2) then
                ((lenS (.s x41)).bind fun l49 =>
                  (lenS (.s x46)).bind fun l50 =>
                  bif ((IntKind.wrap .i64 (((l49 : Nat) : Int) + ((l50 : Nat) : Int))) == 0) then
                  ((overdublaw09_wakes [] r44.2).bind fun r51 =>
                    asB r51.1 fun b52 =>
                    some (.s (.bool b52), r51.2))
                  else
                  (some (.s (.bool false), r44.2)))
                else
                (some (.s (.bool false), r44.2)))
              else
              (some (.s (.bool false), r44.2))) else (none)))))
    (fun vs53 m54 =>
      headK vs53 fun a58 r59 =>
      asB a58 fun b60 =>
      some (.s (.bool b60), m54))
    (fun d57 vs55 m56 =>
      none)) := by rw [← G6_17, ← G6_7, ← G6_9, ← G6_11, ← G6_13, ← G6_19, ← G6_16]; kernel_rfl

end Go.Proofs.Ytnjenjbodcihmaa
