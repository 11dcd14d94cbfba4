/- The Go functions as plain functions over abstract memory, and what each comes to. -/
import Derived.Test.YtkcaigagilpomaaProg
import Derived.KernelRfl
import Derived.Test.YtkcaigagilpomaaE0
namespace Go.Proofs.Ytkcaigagilpomaa
open Go Go.Proofs.Ytkcaigagilpomaa.E
set_option maxRecDepth 100000
set_option linter.unusedVariables false
/-! ### overdub/overdubkeep.Within -/
noncomputable def G15 : FuncId → FunA := fun _ _ _ => none
def A15 : Ann := .two (.leaf) (.two (.two (.leaf) (.two (.two (.leaf) (.leaf)) (.leaf))) (.two (.leaf) (.join [(5, .i .i64)] [] [] (.two (.leaf) (.two (.leaf) (.leaf))) (.two (.leaf) (.leaf)))))
def R15 : Slots := [(4, .i .i64)]
noncomputable def overdubkeep_Within : FunA := denF Try.prog G15 Try.f15 A15 R15
theorem overdubkeep_Within_eq (p0 : Int) (p1 : Int) (μ : AMem) : overdubkeep_Within [.s (.int .i64 p0), .s (.int .i64 p1)] μ =
  bif decide (p1 < 1) then
  (some (.s (.int .i64 0), μ))
  else
  (if p1 = 0 then none else
    (seqJ
      (bif decide ((Int.tmod p0 p1) < 0) then
        (some (.normal, [.s (.int .i64 (IntKind.wrap .i64 ((Int.tmod p0 p1) + p1)))], μ))
        else
        (some (.normal, [.s (.int .i64 (Int.tmod p0 p1))], μ)))
      (fun vs1 m2 =>
        headK vs1 fun a3 r4 =>
        asI .i64 a3 fun n5 =>
        some (.s (.int .i64 n5), m2))
      (fun vs6 m7 =>
        headK vs6 fun a11 r12 =>
        asI .i64 a11 fun n13 =>
        some (.s (.int .i64 n13), m7))
      (fun d10 vs8 m9 =>
        none))) := by kernel_rfl

/-! ### overdub/overdubkeep.Samples -/
noncomputable def G10 : FuncId → FunA := fun g => bif Nat.beq g 15 then overdubkeep_Within else fun _ _ => none
theorem G10_15 : G10 15 = overdubkeep_Within := by kernel_rfl
def A10 : Ann := .two (.leaf) (.two (.leaf) (.two (.two (.leaf) (.join [(7, .s)] [] [] (.loop [(7, .s), (8, .i .i64)] [0, 1, 2] [0] (.two (.join [(18, .b)] [0, 1, 2, 7, 8] [] (.leaf) (.two (.leaf) (.leaf))) (.two (.join [(0, .s), (1, .i .i64), (2, .b), (7, .s), (8, .i .i64)] [] [] (.two (.leaf) (.join [(9, .i .i64)] [0, 1, 2, 7, 8] [] (.join [(31, .b)] [0, 1, 2, 7, 8, 9] [] (.leaf) (.two (.two (.leaf) (.join [(47, .b)] [0, 1, 2, 7, 8, 9] [] (.leaf) (.two (.leaf) (.leaf)))) (.leaf))) (.leaf))) .leaf) (.leaf)))) .leaf)) (.two (.leaf) (.leaf))))
def R10 : Slots := [(6, .s)]
noncomputable def overdubkeep_Samples : FunA := denF Try.prog G10 Try.f10 A10 R10
noncomputable def overdubkeep_Samples_L1_B (os vs : List AV) (μ : AMem) : Option Res := joinK [(7, .s), (8, .i .i64)] vs (envO [0, 1, 2] os) fun e => den Try.prog G10 Try.f10.ntmps (cL (cL (cR (cL (cR (cR (bodyOf Try.f10))))))) (aL (aL (aR (aL (aR (aR A10)))))) { ret := R10, exits := [(0, [(7, .s)])] } Res e μ fun ex e μ => some (ex, valsOf (Lv.at { ret := R10, exits := [(0, [(7, .s)])] } [(7, .s), (8, .i .i64)] ex) e, μ)
noncomputable def overdubkeep_Samples_L1 (os vs : List AV) (μ : AMem) : Option Res := loopA (overdubkeep_Samples_L1_B os) vs μ
theorem overdubkeep_Samples_L1_B_eq (s0 : SV) (s1 : Int) (s2 : Bool) (s7 : SV) (s8 : Int) (μ : AMem) : overdubkeep_Samples_L1_B [.s s0, .s (.int .i64 s1), .s (.bool s2)] [.s s7, .s (.int .i64 s8)] μ =
  seqJ
  ((lenS (.s s0)).bind fun l12 =>
    bif decide (s8 < ((l12 : Nat) : Int)) then
    (some (.normal, [.s (.bool (decide (s8 < s1)))], μ))
    else
    (some (.normal, [.s (.bool false)], μ)))
  (fun vs13 m14 =>
    headK vs13 fun a15 r16 =>
    asB a15 fun b17 =>
    bif b17 then
    (indS 1 (.s s0) s8 fun p18 =>
      loadAt m14 p18 fun v19 =>
      asI .i64 v19 fun n20 =>
      seqJ
      (seqJ
        (bif !(!s2) then
          (some (.normal, [.s (.bool ((Int.tmod n20 5) != 4))], m14))
          else
          (some (.normal, [.s (.bool true)], m14)))
        (fun vs21 m22 =>
          headK vs21 fun a23 r24 =>
          asB a23 fun b25 =>
          bif b25 then
          ((overdubkeep_Within [.s (.int .i64 (IntKind.wrap .i64 (n20 - (-8388608)))), .s (.int .i64 16777216)] m22).bind fun r26 =>
            asI .i64 r26.1 fun n27 =>
            seqJ
            (indS 1 (.s s0) s8 fun p28 =>
              loadAt r26.2 p28 fun v29 =>
              asI .i64 v29 fun n30 =>
              bif decide (n30 ≥ (-8388608)) then
              (indS 1 (.s s0) s8 fun p31 =>
                loadAt r26.2 p31 fun v32 =>
                asI .i64 v32 fun n33 =>
                some (.normal, [.s (.bool (decide (n33 ≤ 8388607)))], r26.2))
              else
              (some (.normal, [.s (.bool false)], r26.2)))
            (fun vs34 m35 =>
              headK vs34 fun a36 r37 =>
              asB a36 fun b38 =>
              bif b38 then
              (indS 1 (.s s0) s8 fun p39 =>
                loadAt m35 p39 fun v40 =>
                asI .i64 v40 fun n41 =>
                some (.normal, [.s (.int .i64 n41)], m35))
              else
              (some (.normal, [.s (.int .i64 (IntKind.wrap .i64 ((-8388608) + n27)))], m35)))
            (fun vs42 m43 =>
              headK vs42 fun a47 r48 =>
              asS a47 fun x49 =>
              some (.ret, [.s x49], m43))
            (fun d46 vs44 m45 =>
              none))
          else
          (some (.normal, [.s (.int .i64 n20)], m22)))
        (fun vs50 m51 =>
          headK vs50 fun a55 r56 =>
          asS a55 fun x57 =>
          some (.ret, [.s x57], m51))
        (fun d54 vs52 m53 =>
          none))
      (fun vs58 m59 =>
        headK vs58 fun a60 r61 =>
        asI .i64 a60 fun n62 =>
        appendA 3 1 8 (m59.next + 3) ((m59.bump 5).set (m59.next + 2) (rowObj [.int .i64 n62] 1 3 (some 1))) (.s s7) (.s (.slice (m59.next + 2) 0 0 1)) fun x63 m64 =>
        asS x63 fun x65 =>
        some (.normal, [.s x65, .s (.int .i64 (IntKind.wrap .i64 (s8 + 1)))], m64))
      (fun vs66 m67 =>
        headK vs66 fun a71 r72 =>
        asS a71 fun x73 =>
        some (.ret, [.s x73], m67))
      (fun d70 vs68 m69 =>
        none))
    else
    (some (.exit 0, [.s s7], m14)))
  (fun vs74 m75 =>
    headK vs74 fun a79 r80 =>
    asS a79 fun x81 =>
    some (.ret, [.s x81], m75))
  (fun d78 vs76 m77 =>
    none) := by rw [← G10_15]; kernel_rfl
theorem overdubkeep_Samples_L1_eq (os vs : List AV) (μ : AMem) : overdubkeep_Samples_L1 os vs μ = (overdubkeep_Samples_L1_B os vs μ).bind fun r => match r.1 with | .normal => overdubkeep_Samples_L1 os r.2.1 r.2.2 | _ => some r := loopA_eq _ _ _
theorem overdubkeep_Samples_eq (p0 : SV) (p1 : Int) (p2 : Bool) (μ : AMem) : overdubkeep_Samples [.s p0, .s (.int .i64 p1), .s (.bool p2)] μ =
  seqJ (overdubkeep_Samples_L1 [.s p0, .s (.int .i64 p1), .s (.bool p2)] [.s .nilSlice, .s (.int .i64 0)] μ)
  (fun _ _ => none)
  (fun vs1 m2 =>
    headK vs1 fun a6 r7 =>
    asS a6 fun x8 =>
    some (.s x8, m2))
  (fun d5 vs3 m4 =>
    bif Nat.beq 0 d5 then (headK vs3 fun a9 r10 =>
      asS a9 fun x11 =>
      some (.s x11, m4)) else (none)) := by kernel_rfl

/-! ### overdub/fixed.Sample -/
noncomputable def G26 : FuncId → FunA := fun _ _ _ => none
def A26 : Ann := .two (.leaf) (.two (.leaf) (.leaf))
def R26 : Slots := [(2, .b)]
noncomputable def fixed_Sample : FunA := denF Try.prog G26 Try.f26 A26 R26
theorem fixed_Sample_eq (p0 : Int) (μ : AMem) : fixed_Sample [.s (.int .i64 p0)] μ =
  bif decide (p0 ≥ (-8388608)) then
  (some (.s (.bool (decide (p0 ≤ 8388607))), μ))
  else
  (some (.s (.bool false), μ)) := by kernel_rfl

/-! ### overdub/fixed.Check -/
noncomputable def G21 : FuncId → FunA := fun g => bif Nat.beq g 26 then fixed_Sample else fun _ _ => none
theorem G21_26 : G21 26 = fixed_Sample := by kernel_rfl
def A21 : Ann := .two (.leaf) (.two (.two (.leaf) (.join [(0, .s)] [] [] (.loop [(7, .i .i64)] [0, 5, 6] [0] (.two (.leaf) (.two (.two (.leaf) (.leaf)) (.two (.join [(0, .s), (5, .s), (6, .i .i64), (7, .i .i64)] [] [] (.two (.leaf) (.two (.leaf) (.two (.two (.leaf) (.leaf)) (.leaf)))) .leaf) (.leaf))))) .leaf)) (.two (.two (.leaf) (.two (.two (.leaf) (.leaf)) (.leaf))) (.two (.leaf) (.leaf))))
def R21 : Slots := [(2, .i .i64)]
noncomputable def fixed_Check : FunA := denF Try.prog G21 Try.f21 A21 R21
noncomputable def fixed_Check_L1_B (os vs : List AV) (μ : AMem) : Option Res := joinK [(7, .i .i64)] vs (envO [0, 5, 6] os) fun e => den Try.prog G21 Try.f21.ntmps (cL (cL (cR (cL (cR (bodyOf Try.f21)))))) (aL (aL (aR (aL (aR A21))))) { ret := R21, exits := [(0, [(0, .s)])] } Res e μ fun ex e μ => some (ex, valsOf (Lv.at { ret := R21, exits := [(0, [(0, .s)])] } [(7, .i .i64)] ex) e, μ)
noncomputable def fixed_Check_L1 (os vs : List AV) (μ : AMem) : Option Res := loopA (fixed_Check_L1_B os) vs μ
theorem fixed_Check_L1_B_eq (s0 : SV) (s5 : SV) (s6 : Int) (s7 : Int) (μ : AMem) : fixed_Check_L1_B [.s s0, .s s5, .s (.int .i64 s6)] [.s (.int .i64 s7)] μ =
  bif decide (s7 < s6) then
  (indS 1 (.s s5) s7 fun p14 =>
    loadAt μ p14 fun v15 =>
    asI .i64 v15 fun n16 =>
    (fixed_Sample [.s (.int .i64 n16)] μ).bind fun r17 =>
    asB r17.1 fun b18 =>
    bif (!b18) then
    (some (.ret, [.s (.int .i64 8)], r17.2))
    else
    (some (.normal, [.s (.int .i64 (IntKind.wrap .i64 (s7 + 1)))], r17.2)))
  else
  (some (.exit 0, [.s s0], μ)) := by rw [← G21_26]; kernel_rfl
theorem fixed_Check_L1_eq (os vs : List AV) (μ : AMem) : fixed_Check_L1 os vs μ = (fixed_Check_L1_B os vs μ).bind fun r => match r.1 with | .normal => fixed_Check_L1 os r.2.1 r.2.2 | _ => some r := loopA_eq _ _ _
theorem fixed_Check_eq (p0 : SV) (μ : AMem) : fixed_Check [.s p0] μ =
  (lenS (.s p0)).bind fun l1 =>
  seqJ (fixed_Check_L1 [.s p0, .s p0, .s (.int .i64 ((l1 : Nat) : Int))] [.s (.int .i64 0)] μ)
  (fun _ _ => none)
  (fun vs2 m3 =>
    headK vs2 fun a7 r8 =>
    asI .i64 a7 fun n9 =>
    some (.s (.int .i64 n9), m3))
  (fun d6 vs4 m5 =>
    bif Nat.beq 0 d6 then (headK vs4 fun a10 r11 =>
      asS a10 fun x12 =>
      (lenS (.s x12)).bind fun l13 =>
      bif decide (((l13 : Nat) : Int) > 64) then
      (some (.s (.int .i64 4), m5))
      else
      (some (.s (.int .i64 0), m5))) else (none)) := by kernel_rfl

/-! ### overdub/levin.Auto -/
noncomputable def G11 : FuncId → FunA := fun g => bif Nat.beq g 21 then fixed_Check else fun _ _ => none
theorem G11_21 : G11 21 = fixed_Check := by kernel_rfl
def A11 : Ann := .two (.leaf) (.two (.join [(16, .b)] [0, 1] [] (.leaf) (.two (.two (.leaf) (.leaf)) (.leaf))) (.two (.two (.leaf) (.two (.leaf) (.two (.two (.leaf) (.leaf)) (.leaf)))) (.two (.leaf) (.two (.two (.leaf) (.join [(7, .s)] [] [] (.loop [(7, .s), (24, .i .i64)] [0, 23] [0] (.two (.leaf) (.two (.two (.leaf) (.leaf)) (.two (.join [(0, .s), (7, .s), (23, .i .i64), (24, .i .i64)] [] [] (.two (.leaf) (.two (.leaf) (.two (.two (.leaf) (.join [(0, .s), (7, .s), (9, .i .i64), (23, .i .i64), (24, .i .i64)] [] [] (.loop [(9, .i .i64), (10, .i .i64)] [0, 7, 8, 23, 24] [2] (.two (.two (.leaf) (.two (.leaf) (.leaf))) (.two (.join [(0, .s), (7, .s), (8, .i .i64), (9, .i .i64), (10, .i .i64), (23, .i .i64), (24, .i .i64)] [] [] (.ord [0, 1, 2, 3, 4, 5, 6, 7, 8, 9, 10, 11, 12, 13]) .leaf) (.leaf)))) .leaf)) (.leaf)))) .leaf) (.leaf))))) .leaf)) (.two (.leaf) (.leaf))))))
def R11 : Slots := [(4, .s), (5, .i .i64)]
noncomputable def levin_Auto : FunA := denF Try.prog G11 Try.f11 A11 R11
noncomputable def levin_Auto_L2_B (os vs : List AV) (μ : AMem) : Option Res := joinK [(9, .i .i64), (10, .i .i64)] vs (envO [0, 7, 8, 23, 24] os) fun e => den Try.prog G11 Try.f11.ntmps (cL (cL (cR (cL (cR (cR (cL (cL (cR (cR (cL (cL (cR (cL (cR (cR (cR (cR (bodyOf Try.f11))))))))))))))))))) (aL (aL (aR (aL (aR (aR (aL (aL (aR (aR (aL (aL (aR (aL (aR (aR (aR (aR A11)))))))))))))))))) { ret := R11, exits := [(2, [(0, .s), (7, .s), (9, .i .i64), (23, .i .i64), (24, .i .i64)]), (1, [(0, .s), (7, .s), (23, .i .i64), (24, .i .i64)]), (0, [(7, .s)])] } Res e μ fun ex e μ => some (ex, valsOf (Lv.at { ret := R11, exits := [(2, [(0, .s), (7, .s), (9, .i .i64), (23, .i .i64), (24, .i .i64)]), (1, [(0, .s), (7, .s), (23, .i .i64), (24, .i .i64)]), (0, [(7, .s)])] } [(9, .i .i64), (10, .i .i64)] ex) e, μ)
noncomputable def levin_Auto_L2 (os vs : List AV) (μ : AMem) : Option Res := loopA (levin_Auto_L2_B os) vs μ
noncomputable def levin_Auto_L1_B (os vs : List AV) (μ : AMem) : Option Res := joinK [(7, .s), (24, .i .i64)] vs (envO [0, 23] os) fun e => den Try.prog G11 Try.f11.ntmps (cL (cL (cR (cL (cR (cR (cR (cR (bodyOf Try.f11))))))))) (aL (aL (aR (aL (aR (aR (aR (aR A11)))))))) { ret := R11, exits := [(0, [(7, .s)])] } Res e μ fun ex e μ => some (ex, valsOf (Lv.at { ret := R11, exits := [(0, [(7, .s)])] } [(7, .s), (24, .i .i64)] ex) e, μ)
noncomputable def levin_Auto_L1 (os vs : List AV) (μ : AMem) : Option Res := loopA (levin_Auto_L1_B os) vs μ
theorem levin_Auto_L2_B_eq (s0 : SV) (s7 : SV) (s8 : Int) (s23 : Int) (s24 : Int) (s9 : Int) (s10 : Int) (μ : AMem) : levin_Auto_L2_B [.s s0, .s s7, .s (.int .i64 s8), .s (.int .i64 s23), .s (.int .i64 s24)] [.s (.int .i64 s9), .s (.int .i64 s10)] μ =
  (lenS (.s s0)).bind fun l62 =>
  bif decide (s10 < ((l62 : Nat) : Int)) then
  (indS 1 (.s s0) s10 fun p63 =>
    loadAt μ p63 fun v64 =>
    asI .i64 v64 fun n65 =>
    indS 1 (.s s0) (IntKind.wrap .i64 (s10 - s8)) fun p66 =>
    loadAt μ p66 fun v67 =>
    asI .i64 v67 fun n68 =>
    some (.normal, [.s (.int .i64 (IntKind.wrap .i64 (s9 + (IntKind.wrap .i64 (n65 * n68))))), .s (.int .i64 (IntKind.wrap .i64 (s10 + 1)))], μ))
  else
  (some (.exit 2, [.s s0, .s s7, .s (.int .i64 s9), .s (.int .i64 s23), .s (.int .i64 s24)], μ)) := by kernel_rfl
theorem levin_Auto_L2_eq (os vs : List AV) (μ : AMem) : levin_Auto_L2 os vs μ = (levin_Auto_L2_B os vs μ).bind fun r => match r.1 with | .normal => levin_Auto_L2 os r.2.1 r.2.2 | _ => some r := loopA_eq _ _ _
theorem levin_Auto_L1_B_eq (s0 : SV) (s23 : Int) (s7 : SV) (s24 : Int) (μ : AMem) : levin_Auto_L1_B [.s s0, .s (.int .i64 s23)] [.s s7, .s (.int .i64 s24)] μ =
  bif decide (s24 < s23) then
  (seqJ (levin_Auto_L2 [.s s0, .s s7, .s (.int .i64 s24), .s (.int .i64 s23), .s (.int .i64 s24)] [.s (.int .i64 0), .s (.int .i64 s24)] μ)
    (fun _ _ => none)
    (fun vs33 m34 =>
      headK vs33 fun a38 r39 =>
      asS a38 fun x40 =>
      headK r39 fun a41 r42 =>
      asI .i64 a41 fun n43 =>
      some (.ret, [.s x40, .s (.int .i64 n43)], m34))
    (fun d37 vs35 m36 =>
      bif Nat.beq 2 d37 then (headK vs35 fun a44 r45 =>
        asS a44 fun x46 =>
        headK r45 fun a47 r48 =>
        asS a47 fun x49 =>
        headK r48 fun a50 r51 =>
        asI .i64 a50 fun n52 =>
        headK r51 fun a53 r54 =>
        asI .i64 a53 fun n55 =>
        headK r54 fun a56 r57 =>
        asI .i64 a56 fun n58 =>
        appendA 3 1 8 (m36.next + 3) ((m36.bump 5).set (m36.next + 2) (rowObj [.int .i64 n52] 1 3 (some 1))) (.s x49) (.s (.slice (m36.next + 2) 0 0 1)) fun x59 m60 =>
        asS x59 fun x61 =>
        some (.normal, [.s x61, .s (.int .i64 (IntKind.wrap .i64 (n58 + 1)))], m60)) else (none)))
  else
  (some (.exit 0, [.s s7], μ)) := by kernel_rfl
theorem levin_Auto_L1_eq (os vs : List AV) (μ : AMem) : levin_Auto_L1 os vs μ = (levin_Auto_L1_B os vs μ).bind fun r => match r.1 with | .normal => levin_Auto_L1 os r.2.1 r.2.2 | _ => some r := loopA_eq _ _ _
theorem levin_Auto_eq (p0 : SV) (p1 : Int) (μ : AMem) : levin_Auto [.s p0, .s (.int .i64 p1)] μ =
  seqJ
  (bif !(decide (p1 < 0)) then
    (some (.normal, [.s (.bool (decide (p1 > 12)))], μ))
    else
    (some (.normal, [.s (.bool true)], μ)))
  (fun vs1 m2 =>
    headK vs1 fun a3 r4 =>
    asB a3 fun b5 =>
    bif b5 then
    (some (.tuple [.s .nilSlice, .s (.int .i64 1)], m2))
    else
    ((fixed_Check [.s p0] m2).bind fun r6 =>
      asI .i64 r6.1 fun n7 =>
      bif (n7 != 0) then
      (some (.tuple [.s .nilSlice, .s (.int .i64 n7)], r6.2))
      else
      (seqJ (levin_Auto_L1 [.s p0, .s (.int .i64 (IntKind.wrap .i64 (p1 + 1)))] [.s .nilSlice, .s (.int .i64 0)] r6.2)
        (fun _ _ => none)
        (fun vs8 m9 =>
          headK vs8 fun a13 r14 =>
          asS a13 fun x15 =>
          headK r14 fun a16 r17 =>
          asI .i64 a16 fun n18 =>
          some (.tuple [.s x15, .s (.int .i64 n18)], m9))
        (fun d12 vs10 m11 =>
          bif Nat.beq 0 d12 then (headK vs10 fun a19 r20 =>
            asS a19 fun x21 =>
            some (.tuple [.s x21, .s (.int .i64 0)], m11)) else (none)))))
  (fun vs22 m23 =>
    headK vs22 fun a27 r28 =>
    asS a27 fun x29 =>
    headK r28 fun a30 r31 =>
    asI .i64 a30 fun n32 =>
    some (.tuple [.s x29, .s (.int .i64 n32)], m23))
  (fun d26 vs24 m25 =>
    none) := by rw [← G11_21]; kernel_rfl

/-! ### overdub/overdubref05.May -/
noncomputable def G22 : FuncId → FunA := fun _ _ _ => none
def A22 : Ann := .two (.leaf) (.two (.two (.leaf) (.join [(0, .s)] [] [] (.loop [(6, .i .i64)] [0, 5] [0] (.two (.leaf) (.two (.two (.leaf) (.leaf)) (.two (.join [(0, .s), (5, .i .i64), (6, .i .i64)] [] [] (.two (.leaf) (.join [(20, .b)] [0, 5, 6] [] (.leaf) (.two (.two (.leaf) (.leaf)) (.leaf)))) .leaf) (.leaf))))) .leaf)) (.two (.two (.leaf) (.two (.two (.leaf) (.leaf)) (.leaf))) (.two (.leaf) (.leaf))))
def R22 : Slots := [(2, .i .i64)]
noncomputable def overdubref05_May : FunA := denF Try.prog G22 Try.f22 A22 R22
noncomputable def overdubref05_May_L1_B (os vs : List AV) (μ : AMem) : Option Res := joinK [(6, .i .i64)] vs (envO [0, 5] os) fun e => den Try.prog G22 Try.f22.ntmps (cL (cL (cR (cL (cR (bodyOf Try.f22)))))) (aL (aL (aR (aL (aR A22))))) { ret := R22, exits := [(0, [(0, .s)])] } Res e μ fun ex e μ => some (ex, valsOf (Lv.at { ret := R22, exits := [(0, [(0, .s)])] } [(6, .i .i64)] ex) e, μ)
noncomputable def overdubref05_May_L1 (os vs : List AV) (μ : AMem) : Option Res := loopA (overdubref05_May_L1_B os) vs μ
theorem overdubref05_May_L1_B_eq (s0 : SV) (s5 : Int) (s6 : Int) (μ : AMem) : overdubref05_May_L1_B [.s s0, .s (.int .i64 s5)] [.s (.int .i64 s6)] μ =
  bif decide (s6 < s5) then
  (seqJ
    (indS 1 (.s s0) s6 fun p14 =>
      loadAt μ p14 fun v15 =>
      asI .i64 v15 fun n16 =>
      bif !(decide (n16 < (-8388608))) then
      (indS 1 (.s s0) s6 fun p17 =>
        loadAt μ p17 fun v18 =>
        asI .i64 v18 fun n19 =>
        some (.normal, [.s (.bool (decide (n19 > 8388607)))], μ))
      else
      (some (.normal, [.s (.bool true)], μ)))
    (fun vs20 m21 =>
      headK vs20 fun a22 r23 =>
      asB a22 fun b24 =>
      bif b24 then
      (some (.ret, [.s (.int .i64 8)], m21))
      else
      (some (.normal, [.s (.int .i64 (IntKind.wrap .i64 (s6 + 1)))], m21)))
    (fun vs25 m26 =>
      headK vs25 fun a30 r31 =>
      asI .i64 a30 fun n32 =>
      some (.ret, [.s (.int .i64 n32)], m26))
    (fun d29 vs27 m28 =>
      none))
  else
  (some (.exit 0, [.s s0], μ)) := by kernel_rfl
theorem overdubref05_May_L1_eq (os vs : List AV) (μ : AMem) : overdubref05_May_L1 os vs μ = (overdubref05_May_L1_B os vs μ).bind fun r => match r.1 with | .normal => overdubref05_May_L1 os r.2.1 r.2.2 | _ => some r := loopA_eq _ _ _
theorem overdubref05_May_eq (p0 : SV) (μ : AMem) : overdubref05_May [.s p0] μ =
  (lenS (.s p0)).bind fun l1 =>
  seqJ (overdubref05_May_L1 [.s p0, .s (.int .i64 ((l1 : Nat) : Int))] [.s (.int .i64 0)] μ)
  (fun _ _ => none)
  (fun vs2 m3 =>
    headK vs2 fun a7 r8 =>
    asI .i64 a7 fun n9 =>
    some (.s (.int .i64 n9), m3))
  (fun d6 vs4 m5 =>
    bif Nat.beq 0 d6 then (headK vs4 fun a10 r11 =>
      asS a10 fun x12 =>
      (lenS (.s x12)).bind fun l13 =>
      bif decide (((l13 : Nat) : Int) > 64) then
      (some (.s (.int .i64 4), m5))
      else
      (some (.s (.int .i64 0), m5))) else (none)) := by kernel_rfl

/-! ### overdub/overdubref05.Auto -/
noncomputable def G12 : FuncId → FunA := fun g => bif Nat.beq g 22 then overdubref05_May else fun _ _ => none
theorem G12_22 : G12 22 = overdubref05_May := by kernel_rfl
def A12 : Ann := .two (.leaf) (.two (.join [(16, .b)] [0, 1] [] (.leaf) (.two (.two (.leaf) (.leaf)) (.leaf))) (.two (.two (.leaf) (.two (.leaf) (.two (.two (.leaf) (.leaf)) (.leaf)))) (.two (.leaf) (.two (.two (.leaf) (.join [(7, .s)] [] [] (.loop [(7, .s), (8, .i .i64)] [0, 1] [0] (.two (.two (.leaf) (.two (.leaf) (.leaf))) (.two (.join [(0, .s), (1, .i .i64), (7, .s), (8, .i .i64)] [] [] (.two (.leaf) (.two (.two (.leaf) (.join [(0, .s), (1, .i .i64), (7, .s), (8, .i .i64), (9, .i .i64)] [] [] (.loop [(9, .i .i64), (10, .i .i64)] [0, 1, 7, 8] [2] (.two (.two (.leaf) (.two (.leaf) (.leaf))) (.two (.join [(0, .s), (1, .i .i64), (7, .s), (8, .i .i64), (9, .i .i64), (10, .i .i64)] [] [] (.ord [0, 1, 2, 3, 4, 5, 6, 7, 8, 9, 10, 11, 12, 13]) .leaf) (.leaf)))) .leaf)) (.leaf))) .leaf) (.leaf)))) .leaf)) (.two (.leaf) (.leaf))))))
def R12 : Slots := [(4, .s), (5, .i .i64)]
noncomputable def overdubref05_Auto : FunA := denF Try.prog G12 Try.f12 A12 R12
noncomputable def overdubref05_Auto_L2_B (os vs : List AV) (μ : AMem) : Option Res := joinK [(9, .i .i64), (10, .i .i64)] vs (envO [0, 1, 7, 8] os) fun e => den Try.prog G12 Try.f12.ntmps (cL (cL (cR (cL (cR (cL (cL (cR (cL (cL (cR (cL (cR (cR (cR (cR (bodyOf Try.f12))))))))))))))))) (aL (aL (aR (aL (aR (aL (aL (aR (aL (aL (aR (aL (aR (aR (aR (aR A12)))))))))))))))) { ret := R12, exits := [(2, [(0, .s), (1, .i .i64), (7, .s), (8, .i .i64), (9, .i .i64)]), (1, [(0, .s), (1, .i .i64), (7, .s), (8, .i .i64)]), (0, [(7, .s)])] } Res e μ fun ex e μ => some (ex, valsOf (Lv.at { ret := R12, exits := [(2, [(0, .s), (1, .i .i64), (7, .s), (8, .i .i64), (9, .i .i64)]), (1, [(0, .s), (1, .i .i64), (7, .s), (8, .i .i64)]), (0, [(7, .s)])] } [(9, .i .i64), (10, .i .i64)] ex) e, μ)
noncomputable def overdubref05_Auto_L2 (os vs : List AV) (μ : AMem) : Option Res := loopA (overdubref05_Auto_L2_B os) vs μ
noncomputable def overdubref05_Auto_L1_B (os vs : List AV) (μ : AMem) : Option Res := joinK [(7, .s), (8, .i .i64)] vs (envO [0, 1] os) fun e => den Try.prog G12 Try.f12.ntmps (cL (cL (cR (cL (cR (cR (cR (cR (bodyOf Try.f12))))))))) (aL (aL (aR (aL (aR (aR (aR (aR A12)))))))) { ret := R12, exits := [(0, [(7, .s)])] } Res e μ fun ex e μ => some (ex, valsOf (Lv.at { ret := R12, exits := [(0, [(7, .s)])] } [(7, .s), (8, .i .i64)] ex) e, μ)
noncomputable def overdubref05_Auto_L1 (os vs : List AV) (μ : AMem) : Option Res := loopA (overdubref05_Auto_L1_B os) vs μ
theorem overdubref05_Auto_L2_B_eq (s0 : SV) (s1 : Int) (s7 : SV) (s8 : Int) (s9 : Int) (s10 : Int) (μ : AMem) : overdubref05_Auto_L2_B [.s s0, .s (.int .i64 s1), .s s7, .s (.int .i64 s8)] [.s (.int .i64 s9), .s (.int .i64 s10)] μ =
  (lenS (.s s0)).bind fun l62 =>
  bif decide (s10 < ((l62 : Nat) : Int)) then
  (indS 1 (.s s0) s10 fun p63 =>
    loadAt μ p63 fun v64 =>
    asI .i64 v64 fun n65 =>
    indS 1 (.s s0) (IntKind.wrap .i64 (s10 - s8)) fun p66 =>
    loadAt μ p66 fun v67 =>
    asI .i64 v67 fun n68 =>
    some (.normal, [.s (.int .i64 (IntKind.wrap .i64 (s9 + (IntKind.wrap .i64 (n65 * n68))))), .s (.int .i64 (IntKind.wrap .i64 (s10 + 1)))], μ))
  else
  (some (.exit 2, [.s s0, .s (.int .i64 s1), .s s7, .s (.int .i64 s8), .s (.int .i64 s9)], μ)) := by kernel_rfl
theorem overdubref05_Auto_L2_eq (os vs : List AV) (μ : AMem) : overdubref05_Auto_L2 os vs μ = (overdubref05_Auto_L2_B os vs μ).bind fun r => match r.1 with | .normal => overdubref05_Auto_L2 os r.2.1 r.2.2 | _ => some r := loopA_eq _ _ _
theorem overdubref05_Auto_L1_B_eq (s0 : SV) (s1 : Int) (s7 : SV) (s8 : Int) (μ : AMem) : overdubref05_Auto_L1_B [.s s0, .s (.int .i64 s1)] [.s s7, .s (.int .i64 s8)] μ =
  bif decide (s8 ≤ s1) then
  (seqJ (overdubref05_Auto_L2 [.s s0, .s (.int .i64 s1), .s s7, .s (.int .i64 s8)] [.s (.int .i64 0), .s (.int .i64 s8)] μ)
    (fun _ _ => none)
    (fun vs33 m34 =>
      headK vs33 fun a38 r39 =>
      asS a38 fun x40 =>
      headK r39 fun a41 r42 =>
      asI .i64 a41 fun n43 =>
      some (.ret, [.s x40, .s (.int .i64 n43)], m34))
    (fun d37 vs35 m36 =>
      bif Nat.beq 2 d37 then (headK vs35 fun a44 r45 =>
        asS a44 fun x46 =>
        headK r45 fun a47 r48 =>
        asI .i64 a47 fun n49 =>
        headK r48 fun a50 r51 =>
        asS a50 fun x52 =>
        headK r51 fun a53 r54 =>
        asI .i64 a53 fun n55 =>
        headK r54 fun a56 r57 =>
        asI .i64 a56 fun n58 =>
        appendA 3 1 8 (m36.next + 3) ((m36.bump 5).set (m36.next + 2) (rowObj [.int .i64 n58] 1 3 (some 1))) (.s x52) (.s (.slice (m36.next + 2) 0 0 1)) fun x59 m60 =>
        asS x59 fun x61 =>
        some (.normal, [.s x61, .s (.int .i64 (IntKind.wrap .i64 (n55 + 1)))], m60)) else (none)))
  else
  (some (.exit 0, [.s s7], μ)) := by kernel_rfl
theorem overdubref05_Auto_L1_eq (os vs : List AV) (μ : AMem) : overdubref05_Auto_L1 os vs μ = (overdubref05_Auto_L1_B os vs μ).bind fun r => match r.1 with | .normal => overdubref05_Auto_L1 os r.2.1 r.2.2 | _ => some r := loopA_eq _ _ _
theorem overdubref05_Auto_eq (p0 : SV) (p1 : Int) (μ : AMem) : overdubref05_Auto [.s p0, .s (.int .i64 p1)] μ =
  seqJ
  (bif !(decide (p1 < 0)) then
    (some (.normal, [.s (.bool (decide (p1 > 12)))], μ))
    else
    (some (.normal, [.s (.bool true)], μ)))
  (fun vs1 m2 =>
    headK vs1 fun a3 r4 =>
    asB a3 fun b5 =>
    bif b5 then
    (some (.tuple [.s .nilSlice, .s (.int .i64 1)], m2))
    else
    ((overdubref05_May [.s p0] m2).bind fun r6 =>
      asI .i64 r6.1 fun n7 =>
      bif (n7 != 0) then
      (some (.tuple [.s .nilSlice, .s (.int .i64 n7)], r6.2))
      else
      (seqJ (overdubref05_Auto_L1 [.s p0, .s (.int .i64 p1)] [.s .nilSlice, .s (.int .i64 0)] r6.2)
        (fun _ _ => none)
        (fun vs8 m9 =>
          headK vs8 fun a13 r14 =>
          asS a13 fun x15 =>
          headK r14 fun a16 r17 =>
          asI .i64 a16 fun n18 =>
          some (.tuple [.s x15, .s (.int .i64 n18)], m9))
        (fun d12 vs10 m11 =>
          bif Nat.beq 0 d12 then (headK vs10 fun a19 r20 =>
            asS a19 fun x21 =>
            some (.tuple [.s x21, .s (.int .i64 0)], m11)) else (none)))))
  (fun vs22 m23 =>
    headK vs22 fun a27 r28 =>
    asS a27 fun x29 =>
    headK r28 fun a30 r31 =>
    asI .i64 a30 fun n32 =>
    some (.tuple [.s x29, .s (.int .i64 n32)], m23))
  (fun d26 vs24 m25 =>
    none) := by rw [← G12_22]; kernel_rfl

/-! ### overdub/overdubkeep.Same[int] -/
noncomputable def G13 : FuncId → FunA := fun _ _ _ => none
def A13 : Ann := .two (.leaf) (.two (.two (.leaf) (.two (.two (.leaf) (.leaf)) (.leaf))) (.two (.two (.leaf) (.join [] [] [] (.loop [(5, .i .i64)] [0, 1] [0] (.two (.two (.leaf) (.two (.leaf) (.leaf))) (.two (.join [(0, .s), (1, .s), (5, .i .i64)] [] [] (.two (.ord [0, 1, 2, 3, 4, 5, 6, 7, 8]) (.two (.two (.leaf) (.leaf)) (.leaf))) .leaf) (.leaf)))) .leaf)) (.two (.leaf) (.leaf))))
def R13 : Slots := [(4, .b)]
noncomputable def overdubkeep_Same_int : FunA := denF Try.prog G13 Try.f13 A13 R13
noncomputable def overdubkeep_Same_int_L1_B (os vs : List AV) (μ : AMem) : Option Res := joinK [(5, .i .i64)] vs (envO [0, 1] os) fun e => den Try.prog G13 Try.f13.ntmps (cL (cL (cR (cL (cR (cR (bodyOf Try.f13))))))) (aL (aL (aR (aL (aR (aR A13)))))) { ret := R13, exits := [(0, [])] } Res e μ fun ex e μ => some (ex, valsOf (Lv.at { ret := R13, exits := [(0, [])] } [(5, .i .i64)] ex) e, μ)
noncomputable def overdubkeep_Same_int_L1 (os vs : List AV) (μ : AMem) : Option Res := loopA (overdubkeep_Same_int_L1_B os) vs μ
theorem overdubkeep_Same_int_L1_B_eq (s0 : SV) (s1 : SV) (s5 : Int) (μ : AMem) : overdubkeep_Same_int_L1_B [.s s0, .s s1] [.s (.int .i64 s5)] μ =
  (lenS (.s s0)).bind fun l11 =>
  bif decide (s5 < ((l11 : Nat) : Int)) then
  (indS 1 (.s s0) s5 fun p12 =>
    loadAt μ p12 fun v13 =>
    asI .i64 v13 fun n14 =>
    indS 1 (.s s1) s5 fun p15 =>
    loadAt μ p15 fun v16 =>
    asI .i64 v16 fun n17 =>
    bif (n14 != n17) then
    (some (.ret, [.s (.bool false)], μ))
    else
    (some (.normal, [.s (.int .i64 (IntKind.wrap .i64 (s5 + 1)))], μ)))
  else
  (some (.exit 0, [], μ)) := by kernel_rfl
theorem overdubkeep_Same_int_L1_eq (os vs : List AV) (μ : AMem) : overdubkeep_Same_int_L1 os vs μ = (overdubkeep_Same_int_L1_B os vs μ).bind fun r => match r.1 with | .normal => overdubkeep_Same_int_L1 os r.2.1 r.2.2 | _ => some r := loopA_eq _ _ _
theorem overdubkeep_Same_int_eq (p0 : SV) (p1 : SV) (μ : AMem) : overdubkeep_Same_int [.s p0, .s p1] μ =
  (lenS (.s p0)).bind fun l1 =>
  (lenS (.s p1)).bind fun l2 =>
  bif (((l1 : Nat) : Int) != ((l2 : Nat) : Int)) then
  (some (.s (.bool false), μ))
  else
  (seqJ (overdubkeep_Same_int_L1 [.s p0, .s p1] [.s (.int .i64 0)] μ)
    (fun _ _ => none)
    (fun vs3 m4 =>
      headK vs3 fun a8 r9 =>
      asB a8 fun b10 =>
      some (.s (.bool b10), m4))
    (fun d7 vs5 m6 =>
      bif Nat.beq 0 d7 then (some (.s (.bool true), m6)) else (none))) := by kernel_rfl

/-! ### overdub/overdublaw07.wakes -/
noncomputable def G14 : FuncId → FunA := fun g => bif Nat.beq g 11 then levin_Auto else bif Nat.beq g 13 then overdubkeep_Same_int else fun _ _ => none
theorem G14_11 : G14 11 = levin_Auto := by kernel_rfl
theorem G14_13 : G14 13 = overdubkeep_Same_int := by kernel_rfl
def A14 : Ann := .two (.leaf) (.two (.leaf) (.two (.leaf) (.leaf)))
def R14 : Slots := [(0, .b)]
noncomputable def overdublaw07_wakes : FunA := denF Try.prog G14 Try.f14 A14 R14
theorem overdublaw07_wakes_eq  (μ : AMem) : overdublaw07_wakes [] μ =
  (levin_Auto [.s (.slice (μ.next + 0) 0 0 3), .s (.int .i64 1)] ((μ.bump 7).set (μ.next + 0) (rowObj [.int .i64 1, .int .i64 2, .int .i64 3] 1 3 (some 3)))).bind fun r1 =>
  extrK 0 r1.1 fun t2 =>
  asS t2 fun x3 =>
  extrK 1 r1.1 fun t4 =>
  asI .i64 t4 fun n5 =>
  bif (n5 == 0) then
  ((overdubkeep_Same_int [.s x3, .s (.slice (r1.2.next + 4) 0 0 2)] ((r1.2.bump 8).set (r1.2.next + 4) (rowObj [.int .i64 14, .int .i64 8] 1 3 (some 2)))).bind fun r6 =>
    asB r6.1 fun b7 =>
    some (.s (.bool b7), r6.2))
  else
  (some (.s (.bool false), (r1.2.bump 8))) := by rw [← G14_11, ← G14_13]; kernel_rfl

/-! ### overdub/overdublaw07.LevinAutos -/
noncomputable def G3 : FuncId → FunA := fun g => bif Nat.beq g 10 then overdubkeep_Samples else bif Nat.beq g 11 then levin_Auto else bif Nat.beq g 12 then overdubref05_Auto else bif Nat.beq g 13 then overdubkeep_Same_int else bif Nat.beq g 14 then overdublaw07_wakes else fun _ _ => none
theorem G3_10 : G3 10 = overdubkeep_Samples := by kernel_rfl
theorem G3_11 : G3 11 = levin_Auto := by kernel_rfl
theorem G3_12 : G3 12 = overdubref05_Auto := by kernel_rfl
theorem G3_13 : G3 13 = overdubkeep_Same_int := by kernel_rfl
theorem G3_14 : G3 14 = overdublaw07_wakes := by kernel_rfl
def A3 : Ann := .two (.leaf) (.two (.leaf) (.two (.leaf) (.two (.leaf) (.two (.leaf) (.leaf)))))
def R3 : Slots := [(6, .b)]
noncomputable def overdublaw07_LevinAutos : FunA := denF Try.prog G3 Try.f3 A3 R3
theorem overdublaw07_LevinAutos_eq (p0 : SV) (p1 : Int) (p2 : Bool) (μ : AMem) : overdublaw07_LevinAutos [.s p0, .s (.int .i64 p1), .s (.bool p2)] μ =
  (overdubkeep_Samples [.s p0, .s (.int .i64 70), .s (.bool p2)] μ).bind fun r1 =>
  asS r1.1 fun x2 =>
  (levin_Auto [.s x2, .s (.int .i64 p1)] r1.2).bind fun r3 =>
  extrK 0 r3.1 fun t4 =>
  asS t4 fun x5 =>
  extrK 1 r3.1 fun t6 =>
  asI .i64 t6 fun n7 =>
  (overdubref05_Auto [.s x2, .s (.int .i64 p1)] r3.2).bind fun r8 =>
  extrK 0 r8.1 fun t9 =>
  asS t9 fun x10 =>
  extrK 1 r8.1 fun t11 =>
  asI .i64 t11 fun n12 =>
  bif (n7 == n12) then
  ((overdubkeep_Same_int [.s x5, .s x10] r8.2).bind fun r13 =>
    asB r13.1 fun b14 =>
    bif b14 then
    ((overdublaw07_wakes [] r13.2).bind fun r15 =>
      asB r15.1 fun b16 =>
      some (.s (.bool b16), r15.2))
    else
    (some (.s (.bool false), r13.2)))
  else
  (some (.s (.bool false), r8.2)) := by rw [← G3_10, ← G3_11, ← G3_12, ← G3_13, ← G3_14]; kernel_rfl

/-! ### overdub/levin.Scaled -/
noncomputable def G16 : FuncId → FunA := fun _ _ _ => none
def A16 : Ann := .two (.leaf) (.two (.join [(18, .b)] [0] [] (.leaf) (.two (.two (.leaf) (.leaf)) (.leaf))) (.two (.two (.leaf) (.join [(0, .s)] [] [] (.loop [(21, .i .i64)] [0, 19, 20] [0] (.two (.leaf) (.two (.two (.leaf) (.leaf)) (.two (.join [(0, .s), (19, .s), (20, .i .i64), (21, .i .i64)] [] [] (.two (.leaf) (.join [(30, .b)] [0, 19, 20, 21] [] (.leaf) (.two (.two (.leaf) (.leaf)) (.leaf)))) .leaf) (.leaf))))) .leaf)) (.two (.leaf) (.two (.join [(0, .s), (6, .i .i64)] [] [] (.loop [(6, .i .i64)] [0] [2] (.two (.two (.leaf) (.two (.leaf) (.leaf))) (.join [(0, .s), (6, .i .i64)] [] [] (.leaf) .leaf))) .leaf) (.two (.leaf) (.two (.two (.leaf) (.join [(6, .i .i64), (7, .s)] [] [] (.loop [(7, .s), (42, .i .i64)] [6, 40, 41] [4] (.two (.leaf) (.two (.two (.leaf) (.leaf)) (.two (.join [(6, .i .i64), (7, .s), (40, .s), (41, .i .i64), (42, .i .i64)] [] [] (.two (.leaf) (.leaf)) .leaf) (.leaf))))) .leaf)) (.two (.leaf) (.leaf))))))))
def R16 : Slots := [(2, .s), (3, .i .i64)]
noncomputable def levin_Scaled : FunA := denF Try.prog G16 Try.f16 A16 R16
noncomputable def levin_Scaled_L3_B (os vs : List AV) (μ : AMem) : Option Res := joinK [(7, .s), (42, .i .i64)] vs (envO [6, 40, 41] os) fun e => den Try.prog G16 Try.f16.ntmps (cL (cL (cR (cL (cR (cR (cR (cR (cR (cR (bodyOf Try.f16))))))))))) (aL (aL (aR (aL (aR (aR (aR (aR (aR (aR A16)))))))))) { ret := R16, exits := [(4, [(6, .i .i64), (7, .s)])] } Res e μ fun ex e μ => some (ex, valsOf (Lv.at { ret := R16, exits := [(4, [(6, .i .i64), (7, .s)])] } [(7, .s), (42, .i .i64)] ex) e, μ)
noncomputable def levin_Scaled_L3 (os vs : List AV) (μ : AMem) : Option Res := loopA (levin_Scaled_L3_B os) vs μ
noncomputable def levin_Scaled_L2_B (os vs : List AV) (μ : AMem) : Option Res := joinK [(6, .i .i64)] vs (envO [0] os) fun e => den Try.prog G16 Try.f16.ntmps (cL (cL (cL (cR (cR (cR (cR (bodyOf Try.f16)))))))) (aL (aL (aL (aR (aR (aR (aR A16))))))) { ret := R16, exits := [(2, [(0, .s), (6, .i .i64)])] } Res e μ fun ex e μ => some (ex, valsOf (Lv.at { ret := R16, exits := [(2, [(0, .s), (6, .i .i64)])] } [(6, .i .i64)] ex) e, μ)
noncomputable def levin_Scaled_L2 (os vs : List AV) (μ : AMem) : Option Res := loopA (levin_Scaled_L2_B os) vs μ
noncomputable def levin_Scaled_L1_B (os vs : List AV) (μ : AMem) : Option Res := joinK [(21, .i .i64)] vs (envO [0, 19, 20] os) fun e => den Try.prog G16 Try.f16.ntmps (cL (cL (cR (cL (cR (cR (bodyOf Try.f16))))))) (aL (aL (aR (aL (aR (aR A16)))))) { ret := R16, exits := [(0, [(0, .s)])] } Res e μ fun ex e μ => some (ex, valsOf (Lv.at { ret := R16, exits := [(0, [(0, .s)])] } [(21, .i .i64)] ex) e, μ)
noncomputable def levin_Scaled_L1 (os vs : List AV) (μ : AMem) : Option Res := loopA (levin_Scaled_L1_B os) vs μ
theorem levin_Scaled_L3_B_eq (s6 : Int) (s40 : SV) (s41 : Int) (s7 : SV) (s42 : Int) (μ : AMem) : levin_Scaled_L3_B [.s (.int .i64 s6), .s s40, .s (.int .i64 s41)] [.s s7, .s (.int .i64 s42)] μ =
  bif decide (s42 < s41) then
  (indS 1 (.s s40) s42 fun p93 =>
    loadAt μ p93 fun v94 =>
    asI .i64 v94 fun n95 =>
    if s6 < 0 then none else
    (appendA 3 1 8 (μ.next + 5) ((μ.bump 7).set (μ.next + 4) (rowObj [.int .i64 (Int.fdiv n95 (2 ^ (min (Int.toNat s6) (IntKind.bits .i64))))] 1 3 (some 1))) (.s s7) (.s (.slice (μ.next + 4) 0 0 1)) fun x96 m97 =>
      asS x96 fun x98 =>
      some (.normal, [.s x98, .s (.int .i64 (IntKind.wrap .i64 (s42 + 1)))], m97)))
  else
  (some (.exit 4, [.s (.int .i64 s6), .s s7], μ)) := by kernel_rfl
theorem levin_Scaled_L3_eq (os vs : List AV) (μ : AMem) : levin_Scaled_L3 os vs μ = (levin_Scaled_L3_B os vs μ).bind fun r => match r.1 with | .normal => levin_Scaled_L3 os r.2.1 r.2.2 | _ => some r := loopA_eq _ _ _
theorem levin_Scaled_L2_B_eq (s0 : SV) (s6 : Int) (μ : AMem) : levin_Scaled_L2_B [.s s0] [.s (.int .i64 s6)] μ =
  indS 1 (.s s0) 0 fun p90 =>
  loadAt μ p90 fun v91 =>
  asI .i64 v91 fun n92 =>
  if s6 < 0 then none else
  (bif decide ((Int.fdiv n92 (2 ^ (min (Int.toNat s6) (IntKind.bits .i64)))) ≥ 1073741824) then
    (some (.normal, [.s (.int .i64 (IntKind.wrap .i64 (s6 + 1)))], μ))
    else
    (some (.exit 2, [.s s0, .s (.int .i64 s6)], μ))) := by kernel_rfl
theorem levin_Scaled_L2_eq (os vs : List AV) (μ : AMem) : levin_Scaled_L2 os vs μ = (levin_Scaled_L2_B os vs μ).bind fun r => match r.1 with | .normal => levin_Scaled_L2 os r.2.1 r.2.2 | _ => some r := loopA_eq _ _ _
theorem levin_Scaled_L1_B_eq (s0 : SV) (s19 : SV) (s20 : Int) (s21 : Int) (μ : AMem) : levin_Scaled_L1_B [.s s0, .s s19, .s (.int .i64 s20)] [.s (.int .i64 s21)] μ =
  bif decide (s21 < s20) then
  (indS 1 (.s s19) s21 fun p71 =>
    loadAt μ p71 fun v72 =>
    asI .i64 v72 fun n73 =>
    seqJ
    (bif !(decide (n73 < (-1152921504606846976))) then
      (some (.normal, [.s (.bool (decide (n73 > 1152921504606846976)))], μ))
      else
      (some (.normal, [.s (.bool true)], μ)))
    (fun vs74 m75 =>
      headK vs74 fun a76 r77 =>
      asB a76 fun b78 =>
      bif b78 then
      (some (.ret, [.s .nilSlice, .s (.int .i64 0)], m75))
      else
      (some (.normal, [.s (.int .i64 (IntKind.wrap .i64 (s21 + 1)))], m75)))
    (fun vs79 m80 =>
      headK vs79 fun a84 r85 =>
      asS a84 fun x86 =>
      headK r85 fun a87 r88 =>
      asI .i64 a87 fun n89 =>
      some (.ret, [.s x86, .s (.int .i64 n89)], m80))
    (fun d83 vs81 m82 =>
      none))
  else
  (some (.exit 0, [.s s0], μ)) := by kernel_rfl
theorem levin_Scaled_L1_eq (os vs : List AV) (μ : AMem) : levin_Scaled_L1 os vs μ = (levin_Scaled_L1_B os vs μ).bind fun r => match r.1 with | .normal => levin_Scaled_L1 os r.2.1 r.2.2 | _ => some r := loopA_eq _ _ _
theorem levin_Scaled_eq (p0 : SV) (μ : AMem) : levin_Scaled [.s p0] μ =
  seqJ
  ((lenS (.s p0)).bind fun l1 =>
    bif !(((l1 : Nat) : Int) == 0) then
    (indS 1 (.s p0) 0 fun p2 =>
      loadAt μ p2 fun v3 =>
      asI .i64 v3 fun n4 =>
      some (.normal, [.s (.bool (decide (n4 < 0)))], μ))
    else
    (some (.normal, [.s (.bool true)], μ)))
  (fun vs5 m6 =>
    headK vs5 fun a7 r8 =>
    asB a7 fun b9 =>
    bif b9 then
    (some (.tuple [.s .nilSlice, .s (.int .i64 0)], m6))
    else
    ((lenS (.s p0)).bind fun l10 =>
      seqJ (levin_Scaled_L1 [.s p0, .s p0, .s (.int .i64 ((l10 : Nat) : Int))] [.s (.int .i64 0)] m6)
      (fun _ _ => none)
      (fun vs11 m12 =>
        headK vs11 fun a16 r17 =>
        asS a16 fun x18 =>
        headK r17 fun a19 r20 =>
        asI .i64 a19 fun n21 =>
        some (.tuple [.s x18, .s (.int .i64 n21)], m12))
      (fun d15 vs13 m14 =>
        bif Nat.beq 0 d15 then (headK vs13 fun a22 r23 =>
          asS a22 fun x24 =>
          seqJ (levin_Scaled_L2 [.s x24] [.s (.int .i64 0)] m14)
          (fun _ _ => none)
          (fun vs25 m26 =>
            headK vs25 fun a30 r31 =>
            asS a30 fun x32 =>
            headK r31 fun a33 r34 =>
            asI .i64 a33 fun n35 =>
            some (.tuple [.s x32, .s (.int .i64 n35)], m26))
          (fun d29 vs27 m28 =>
            bif Nat.beq 2 d29 then (headK vs27 fun a36 r37 =>
              asS a36 fun x38 =>
              headK r37 fun a39 r40 =>
              asI .i64 a39 fun n41 =>
              (lenS (.s x38)).bind fun l42 =>
              seqJ (levin_Scaled_L3 [.s (.int .i64 n41), .s x38, .s (.int .i64 ((l42 : Nat) : Int))] [.s .nilSlice, .s (.int .i64 0)] m28)
              (fun _ _ => none)
              (fun vs43 m44 =>
                headK vs43 fun a48 r49 =>
                asS a48 fun x50 =>
                headK r49 fun a51 r52 =>
                asI .i64 a51 fun n53 =>
                some (.tuple [.s x50, .s (.int .i64 n53)], m44))
              (fun d47 vs45 m46 =>
                bif Nat.beq 4 d47 then (headK vs45 fun a54 r55 =>
                  asI .i64 a54 fun n56 =>
                  headK r55 fun a57 r58 =>
                  asS a57 fun x59 =>
                  some (.tuple [.s x59, .s (.int .i64 n56)], m46)) else (none))) else (none))) else (none))))
  (fun vs60 m61 =>
    headK vs60 fun a65 r66 =>
    asS a65 fun x67 =>
    headK r66 fun a68 r69 =>
    asI .i64 a68 fun n70 =>
    some (.tuple [.s x67, .s (.int .i64 n70)], m61))
  (fun d64 vs62 m63 =>
    none) := by kernel_rfl

/-! ### overdub/overdublaw07.LevinBounds -/
noncomputable def G4 : FuncId → FunA := fun g => bif Nat.beq g 15 then overdubkeep_Within else bif Nat.beq g 16 then levin_Scaled else bif Nat.beq g 13 then overdubkeep_Same_int else bif Nat.beq g 14 then overdublaw07_wakes else fun _ _ => none
theorem G4_15 : G4 15 = overdubkeep_Within := by kernel_rfl
theorem G4_16 : G4 16 = levin_Scaled := by kernel_rfl
theorem G4_13 : G4 13 = overdubkeep_Same_int := by kernel_rfl
theorem G4_14 : G4 14 = overdublaw07_wakes := by kernel_rfl
def A4 : Ann := .two (.leaf) (.two (.leaf) (.two (.leaf) (.two (.two (.leaf) (.join [(5, .s)] [] [] (.loop [(5, .s), (6, .i .i64)] [0, 1] [0] (.two (.join [(23, .b)] [0, 1, 5, 6] [] (.leaf) (.two (.leaf) (.leaf))) (.two (.join [(0, .s), (1, .i .i64), (5, .s), (6, .i .i64)] [] [] (.leaf) .leaf) (.leaf)))) .leaf)) (.two (.leaf) (.two (.join [(78, .b)] [5, 7, 8] [] (.leaf) (.two (.two (.leaf) (.leaf)) (.leaf))) (.two (.two (.leaf) (.join [] [] [] (.loop [(81, .i .i64)] [5, 7, 8, 80] [2] (.two (.leaf) (.two (.two (.leaf) (.leaf)) (.two (.join [(5, .s), (7, .s), (8, .i .i64), (80, .i .i64), (81, .i .i64)] [] [] (.two (.leaf) (.two (.ord [0, 1, 2, 3, 4, 5, 6, 7, 8, 9, 10, 11]) (.two (.two (.leaf) (.leaf)) (.leaf)))) .leaf) (.leaf))))) .leaf)) (.two (.leaf) (.two (.leaf) (.leaf)))))))))
def R4 : Slots := [(4, .b)]
noncomputable def overdublaw07_LevinBounds : FunA := denF Try.prog G4 Try.f4 A4 R4
noncomputable def overdublaw07_LevinBounds_L2_B (os vs : List AV) (μ : AMem) : Option Res := joinK [(81, .i .i64)] vs (envO [5, 7, 8, 80] os) fun e => den Try.prog G4 Try.f4.ntmps (cL (cL (cR (cL (cR (cR (cR (cR (cR (cR (bodyOf Try.f4))))))))))) (aL (aL (aR (aL (aR (aR (aR (aR (aR (aR A4)))))))))) { ret := R4, exits := [(2, [])] } Res e μ fun ex e μ => some (ex, valsOf (Lv.at { ret := R4, exits := [(2, [])] } [(81, .i .i64)] ex) e, μ)
noncomputable def overdublaw07_LevinBounds_L2 (os vs : List AV) (μ : AMem) : Option Res := loopA (overdublaw07_LevinBounds_L2_B os) vs μ
noncomputable def overdublaw07_LevinBounds_L1_B (os vs : List AV) (μ : AMem) : Option Res := joinK [(5, .s), (6, .i .i64)] vs (envO [0, 1] os) fun e => den Try.prog G4 Try.f4.ntmps (cL (cL (cR (cL (cR (cR (cR (bodyOf Try.f4)))))))) (aL (aL (aR (aL (aR (aR (aR A4))))))) { ret := R4, exits := [(0, [(5, .s)])] } Res e μ fun ex e μ => some (ex, valsOf (Lv.at { ret := R4, exits := [(0, [(5, .s)])] } [(5, .s), (6, .i .i64)] ex) e, μ)
noncomputable def overdublaw07_LevinBounds_L1 (os vs : List AV) (μ : AMem) : Option Res := loopA (overdublaw07_LevinBounds_L1_B os) vs μ
theorem overdublaw07_LevinBounds_L2_B_eq (s5 : SV) (s7 : SV) (s8 : Int) (s80 : Int) (s81 : Int) (μ : AMem) : overdublaw07_LevinBounds_L2_B [.s s5, .s s7, .s (.int .i64 s8), .s (.int .i64 s80)] [.s (.int .i64 s81)] μ =
  bif decide (s81 < s80) then
  (indS 1 (.s s7) s81 fun p83 =>
    loadAt μ p83 fun v84 =>
    asI .i64 v84 fun n85 =>
    indS 1 (.s s5) s81 fun p86 =>
    loadAt μ p86 fun v87 =>
    asI .i64 v87 fun n88 =>
    if (IntKind.wrap .u64 s8) < 0 then none else
    (bif (n85 != (Int.fdiv n88 (2 ^ (min (Int.toNat (IntKind.wrap .u64 s8)) (IntKind.bits .i64))))) then
      (some (.ret, [.s (.bool false)], μ))
      else
      (some (.normal, [.s (.int .i64 (IntKind.wrap .i64 (s81 + 1)))], μ))))
  else
  (some (.exit 2, [], μ)) := by kernel_rfl
theorem overdublaw07_LevinBounds_L2_eq (os vs : List AV) (μ : AMem) : overdublaw07_LevinBounds_L2 os vs μ = (overdublaw07_LevinBounds_L2_B os vs μ).bind fun r => match r.1 with | .normal => overdublaw07_LevinBounds_L2 os r.2.1 r.2.2 | _ => some r := loopA_eq _ _ _
theorem overdublaw07_LevinBounds_L1_B_eq (s0 : SV) (s1 : Int) (s5 : SV) (s6 : Int) (μ : AMem) : overdublaw07_LevinBounds_L1_B [.s s0, .s (.int .i64 s1)] [.s s5, .s (.int .i64 s6)] μ =
  seqJ
  ((lenS (.s s0)).bind fun l61 =>
    bif decide (s6 < ((l61 : Nat) : Int)) then
    (some (.normal, [.s (.bool (decide (s6 < 12)))], μ))
    else
    (some (.normal, [.s (.bool false)], μ)))
  (fun vs62 m63 =>
    headK vs62 fun a64 r65 =>
    asB a64 fun b66 =>
    bif b66 then
    (indS 1 (.s s0) s6 fun p67 =>
      loadAt (m63.bump 14) p67 fun v68 =>
      asI .i64 v68 fun n69 =>
      (overdubkeep_Within [.s (.int .i64 n69), .s (.int .i64 (IntKind.wrap .i64 ((IntKind.wrap .i64 (2 * s1)) + 1)))] (m63.bump 14)).bind fun r70 =>
      asI .i64 r70.1 fun n71 =>
      appendA 3 1 8 (m63.next + 12) (r70.2.set (m63.next + 11) (rowObj [.int .i64 (IntKind.wrap .i64 (n71 - s1))] 1 3 (some 1))) (.s s5) (.s (.slice (m63.next + 11) 0 0 1)) fun x72 m73 =>
      asS x72 fun x74 =>
      some (.normal, [.s x74, .s (.int .i64 (IntKind.wrap .i64 (s6 + 1)))], m73))
    else
    (some (.exit 0, [.s s5], m63)))
  (fun vs75 m76 =>
    headK vs75 fun a80 r81 =>
    asB a80 fun b82 =>
    some (.ret, [.s (.bool b82)], m76))
  (fun d79 vs77 m78 =>
    none) := by rw [← G4_15]; kernel_rfl
theorem overdublaw07_LevinBounds_L1_eq (os vs : List AV) (μ : AMem) : overdublaw07_LevinBounds_L1 os vs μ = (overdublaw07_LevinBounds_L1_B os vs μ).bind fun r => match r.1 with | .normal => overdublaw07_LevinBounds_L1 os r.2.1 r.2.2 | _ => some r := loopA_eq _ _ _
theorem overdublaw07_LevinBounds_eq (p0 : SV) (p1 : Int) (μ : AMem) : overdublaw07_LevinBounds [.s p0, .s (.int .i64 p1)] μ =
  (overdubkeep_Within [.s (.int .i64 p1), .s (.int .i64 288230376151711744)] μ).bind fun r1 =>
  asI .i64 r1.1 fun n2 =>
  seqJ (overdublaw07_LevinBounds_L1 [.s p0, .s (.int .i64 n2)] [.s (.slice (r1.2.next + 1) 0 0 1), .s (.int .i64 0)] ((r1.2.bump 3).set (r1.2.next + 1) (rowObj [.int .i64 n2] 1 3 (some 1))))
  (fun _ _ => none)
  (fun vs3 m4 =>
    headK vs3 fun a8 r9 =>
    asB a8 fun b10 =>
    some (.s (.bool b10), m4))
  (fun d7 vs5 m6 =>
    bif Nat.beq 0 d7 then (headK vs5 fun a11 r12 =>
      asS a11 fun x13 =>
      (levin_Scaled [.s x13] m6).bind fun r14 =>
      extrK 0 r14.1 fun t15 =>
      asS t15 fun x16 =>
      extrK 1 r14.1 fun t17 =>
      asI .i64 t17 fun n18 =>
      seqJ
      ((lenS (.s x16)).bind fun l19 =>
        (lenS (.s x13)).bind fun l20 =>
        bif !(((l19 : Nat) : Int) != ((l20 : Nat) : Int)) then
        (bif !(decide (n18 < 0)) then
          (indS 1 (.s x16) 0 fun p21 =>
            loadAt r14.2 p21 fun v22 =>
            asI .i64 v22 fun n23 =>
            bif !(decide (n23 ≥ 1073741824)) then
            (bif (n18 == 0) then
              ((overdubkeep_Same_int [.s x16, .s x13] r14.2).bind fun r24 =>
                asB r24.1 fun b25 =>
                bif !(!b25) then
                (bif decide (n18 > 0) then
                  (indS 1 (.s x16) 0 fun p26 =>
                    loadAt r24.2 p26 fun v27 =>
                    asI .i64 v27 fun n28 =>
                    some (.normal, [.s (.bool (decide (n28 < 536870912)))], r24.2))
                  else
                  (some (.normal, [.s (.bool false)], r24.2)))
                else
                (some (.normal, [.s (.bool true)], r24.2)))
              else
              (bif decide (n18 > 0) then
                (indS 1 (.s x16) 0 fun p29 =>
                  loadAt r14.2 p29 fun v30 =>
                  asI .i64 v30 fun n31 =>
                  some (.normal, [.s (.bool (decide (n31 < 536870912)))], r14.2))
                else
                (some (.normal, [.s (.bool false)], r14.2))))
            else
            (some (.normal, [.s (.bool true)], r14.2)))
          else
          (some (.normal, [.s (.bool true)], r14.2)))
        else
        (some (.normal, [.s (.bool true)], r14.2)))
      (fun vs32 m33 =>
        headK vs32 fun a34 r35 =>
        asB a34 fun b36 =>
        bif b36 then
        (some (.s (.bool false), m33))
        else
        ((lenS (.s x16)).bind fun l37 =>
          seqJ (overdublaw07_LevinBounds_L2 [.s x13, .s x16, .s (.int .i64 n18), .s (.int .i64 ((l37 : Nat) : Int))] [.s (.int .i64 0)] m33)
          (fun _ _ => none)
          (fun vs38 m39 =>
            headK vs38 fun a43 r44 =>
            asB a43 fun b45 =>
            some (.s (.bool b45), m39))
          (fun d42 vs40 m41 =>
            bif Nat.beq 2 d42 then ((levin_Scaled [.s (.slice (m41.next + 0) 0 0 1)] ((m41.bump 7).set (m41.next + 0) (rowObj [.int .i64 (-1)] 1 3 (some 1)))).bind fun r46 =>
              extrK 0 r46.1 fun t47 =>
              asS t47 fun x48 =>
              extrK 1 r46.1 fun t49 =>
              asI .i64 t49 fun n50 =>
              bif (n50 == 0) then
              ((overdublaw07_wakes [] r46.2).bind fun r51 =>
                asB r51.1 fun b52 =>
                some (.s (.bool b52), r51.2))
              else
              (some (.s (.bool false), r46.2))) else (none))))
      (fun vs53 m54 =>
        headK vs53 fun a58 r59 =>
        asB a58 fun b60 =>
        some (.s (.bool b60), m54))
      (fun d57 vs55 m56 =>
        none)) else (none)) := by rw [← G4_15, ← G4_16, ← G4_13, ← G4_14]; kernel_rfl

/-! ### overdub/overdubkeep.Cut[int] -/
noncomputable def G17 : FuncId → FunA := fun _ _ _ => none
def A17 : Ann := .two (.leaf) (.two (.leaf) (.leaf))
def R17 : Slots := [(4, .s)]
noncomputable def overdubkeep_Cut_int : FunA := denF Try.prog G17 Try.f17 A17 R17
theorem overdubkeep_Cut_int_eq (p0 : SV) (p1 : Int) (μ : AMem) : overdubkeep_Cut_int [.s p0, .s (.int .i64 p1)] μ =
  (lenS (.s p0)).bind fun l1 =>
  cutS 1 (.s p0) 0 (if p1 < ((l1 : Nat) : Int) then p1 else ((l1 : Nat) : Int)) fun x2 =>
  some (x2, μ) := by kernel_rfl

/-! ### overdub/overdubref05.down -/
noncomputable def G23 : FuncId → FunA := fun _ _ _ => none
def A23 : Ann := .two (.leaf) (.two (.leaf) (.join [(5, .i .i64)] [] [] (.join [(16, .b)] [5] [] (.leaf) (.two (.leaf) (.leaf))) (.two (.leaf) (.leaf))))
def R23 : Slots := [(4, .i .i64)]
noncomputable def overdubref05_down : FunA := denF Try.prog G23 Try.f23 A23 R23
theorem overdubref05_down_eq (p0 : Int) (p1 : Int) (μ : AMem) : overdubref05_down [.s (.int .i64 p0), .s (.int .i64 p1)] μ =
  if p1 = 0 then none else
  (seqJ
    (seqJ
      (if p1 = 0 then none else
        (bif ((Int.tmod p0 p1) != 0) then
          (some (.normal, [.s (.bool (decide (p0 < 0)))], μ))
          else
          (some (.normal, [.s (.bool false)], μ))))
      (fun vs1 m2 =>
        headK vs1 fun a3 r4 =>
        asB a3 fun b5 =>
        bif b5 then
        (some (.normal, [.s (.int .i64 (IntKind.wrap .i64 ((IntKind.wrap .i64 (Int.tdiv p0 p1)) - 1)))], m2))
        else
        (some (.normal, [.s (.int .i64 (IntKind.wrap .i64 (Int.tdiv p0 p1)))], m2)))
      (fun vs6 m7 =>
        headK vs6 fun a11 r12 =>
        asI .i64 a11 fun n13 =>
        some (.ret, [.s (.int .i64 n13)], m7))
      (fun d10 vs8 m9 =>
        none))
    (fun vs14 m15 =>
      headK vs14 fun a16 r17 =>
      asI .i64 a16 fun n18 =>
      some (.s (.int .i64 n18), m15))
    (fun vs19 m20 =>
      headK vs19 fun a24 r25 =>
      asI .i64 a24 fun n26 =>
      some (.s (.int .i64 n26), m20))
    (fun d23 vs21 m22 =>
      none)) := by kernel_rfl

/-! ### overdub/overdubref05.Scaled -/
noncomputable def G18 : FuncId → FunA := fun g => bif Nat.beq g 23 then overdubref05_down else fun _ _ => none
theorem G18_23 : G18 23 = overdubref05_down := by kernel_rfl
def A18 : Ann := .two (.leaf) (.two (.join [(16, .b)] [0] [] (.leaf) (.two (.two (.leaf) (.leaf)) (.leaf))) (.two (.two (.leaf) (.join [(0, .s)] [] [] (.loop [(19, .i .i64)] [0, 18] [0] (.two (.leaf) (.two (.two (.leaf) (.leaf)) (.two (.join [(0, .s), (18, .i .i64), (19, .i .i64)] [] [] (.two (.leaf) (.join [(33, .b)] [0, 18, 19] [] (.leaf) (.two (.two (.leaf) (.leaf)) (.leaf)))) .leaf) (.leaf))))) .leaf)) (.two (.leaf) (.two (.join [(0, .s), (5, .i .i64)] [] [] (.loop [(5, .i .i64)] [0] [2] (.two (.two (.leaf) (.two (.leaf) (.leaf))) (.join [(0, .s), (5, .i .i64)] [] [] (.leaf) .leaf))) .leaf) (.two (.leaf) (.two (.two (.leaf) (.join [(5, .i .i64), (6, .s)] [] [] (.loop [(6, .s), (47, .i .i64)] [0, 5, 46] [4] (.two (.leaf) (.two (.two (.leaf) (.leaf)) (.two (.join [(0, .s), (5, .i .i64), (6, .s), (46, .i .i64), (47, .i .i64)] [] [] (.two (.leaf) (.leaf)) .leaf) (.leaf))))) .leaf)) (.two (.leaf) (.leaf))))))))
def R18 : Slots := [(2, .s), (3, .i .i64)]
noncomputable def overdubref05_Scaled : FunA := denF Try.prog G18 Try.f18 A18 R18
noncomputable def overdubref05_Scaled_L3_B (os vs : List AV) (μ : AMem) : Option Res := joinK [(6, .s), (47, .i .i64)] vs (envO [0, 5, 46] os) fun e => den Try.prog G18 Try.f18.ntmps (cL (cL (cR (cL (cR (cR (cR (cR (cR (cR (bodyOf Try.f18))))))))))) (aL (aL (aR (aL (aR (aR (aR (aR (aR (aR A18)))))))))) { ret := R18, exits := [(4, [(5, .i .i64), (6, .s)])] } Res e μ fun ex e μ => some (ex, valsOf (Lv.at { ret := R18, exits := [(4, [(5, .i .i64), (6, .s)])] } [(6, .s), (47, .i .i64)] ex) e, μ)
noncomputable def overdubref05_Scaled_L3 (os vs : List AV) (μ : AMem) : Option Res := loopA (overdubref05_Scaled_L3_B os) vs μ
noncomputable def overdubref05_Scaled_L2_B (os vs : List AV) (μ : AMem) : Option Res := joinK [(5, .i .i64)] vs (envO [0] os) fun e => den Try.prog G18 Try.f18.ntmps (cL (cL (cL (cR (cR (cR (cR (bodyOf Try.f18)))))))) (aL (aL (aL (aR (aR (aR (aR A18))))))) { ret := R18, exits := [(2, [(0, .s), (5, .i .i64)])] } Res e μ fun ex e μ => some (ex, valsOf (Lv.at { ret := R18, exits := [(2, [(0, .s), (5, .i .i64)])] } [(5, .i .i64)] ex) e, μ)
noncomputable def overdubref05_Scaled_L2 (os vs : List AV) (μ : AMem) : Option Res := loopA (overdubref05_Scaled_L2_B os) vs μ
noncomputable def overdubref05_Scaled_L1_B (os vs : List AV) (μ : AMem) : Option Res := joinK [(19, .i .i64)] vs (envO [0, 18] os) fun e => den Try.prog G18 Try.f18.ntmps (cL (cL (cR (cL (cR (cR (bodyOf Try.f18))))))) (aL (aL (aR (aL (aR (aR A18)))))) { ret := R18, exits := [(0, [(0, .s)])] } Res e μ fun ex e μ => some (ex, valsOf (Lv.at { ret := R18, exits := [(0, [(0, .s)])] } [(19, .i .i64)] ex) e, μ)
noncomputable def overdubref05_Scaled_L1 (os vs : List AV) (μ : AMem) : Option Res := loopA (overdubref05_Scaled_L1_B os) vs μ
theorem overdubref05_Scaled_L3_B_eq (s0 : SV) (s5 : Int) (s46 : Int) (s6 : SV) (s47 : Int) (μ : AMem) : overdubref05_Scaled_L3_B [.s s0, .s (.int .i64 s5), .s (.int .i64 s46)] [.s s6, .s (.int .i64 s47)] μ =
  bif decide (s47 < s46) then
  (indS 1 (.s s0) s47 fun p98 =>
    loadAt (μ.bump 12) p98 fun v99 =>
    asI .i64 v99 fun n100 =>
    if (IntKind.wrap .u64 s5) < 0 then none else
    ((overdubref05_down [.s (.int .i64 n100), .s (.int .i64 (IntKind.wrap .i64 (1 * 2 ^ (min (Int.toNat (IntKind.wrap .u64 s5)) (IntKind.bits .i64)))))] (μ.bump 12)).bind fun r101 =>
      asI .i64 r101.1 fun n102 =>
      appendA 3 1 8 (μ.next + 10) (r101.2.set (μ.next + 9) (rowObj [.int .i64 n102] 1 3 (some 1))) (.s s6) (.s (.slice (μ.next + 9) 0 0 1)) fun x103 m104 =>
      asS x103 fun x105 =>
      some (.normal, [.s x105, .s (.int .i64 (IntKind.wrap .i64 (s47 + 1)))], m104)))
  else
  (some (.exit 4, [.s (.int .i64 s5), .s s6], μ)) := by rw [← G18_23]; kernel_rfl
theorem overdubref05_Scaled_L3_eq (os vs : List AV) (μ : AMem) : overdubref05_Scaled_L3 os vs μ = (overdubref05_Scaled_L3_B os vs μ).bind fun r => match r.1 with | .normal => overdubref05_Scaled_L3 os r.2.1 r.2.2 | _ => some r := loopA_eq _ _ _
theorem overdubref05_Scaled_L2_B_eq (s0 : SV) (s5 : Int) (μ : AMem) : overdubref05_Scaled_L2_B [.s s0] [.s (.int .i64 s5)] μ =
  indS 1 (.s s0) 0 fun p93 =>
  loadAt μ p93 fun v94 =>
  asI .i64 v94 fun n95 =>
  if (IntKind.wrap .u64 s5) < 0 then none else
  ((overdubref05_down [.s (.int .i64 n95), .s (.int .i64 (IntKind.wrap .i64 (1 * 2 ^ (min (Int.toNat (IntKind.wrap .u64 s5)) (IntKind.bits .i64)))))] μ).bind fun r96 =>
    asI .i64 r96.1 fun n97 =>
    bif decide (n97 ≥ 1073741824) then
    (some (.normal, [.s (.int .i64 (IntKind.wrap .i64 (s5 + 1)))], r96.2))
    else
    (some (.exit 2, [.s s0, .s (.int .i64 s5)], r96.2))) := by rw [← G18_23]; kernel_rfl
theorem overdubref05_Scaled_L2_eq (os vs : List AV) (μ : AMem) : overdubref05_Scaled_L2 os vs μ = (overdubref05_Scaled_L2_B os vs μ).bind fun r => match r.1 with | .normal => overdubref05_Scaled_L2 os r.2.1 r.2.2 | _ => some r := loopA_eq _ _ _
theorem overdubref05_Scaled_L1_B_eq (s0 : SV) (s18 : Int) (s19 : Int) (μ : AMem) : overdubref05_Scaled_L1_B [.s s0, .s (.int .i64 s18)] [.s (.int .i64 s19)] μ =
  bif decide (s19 < s18) then
  (seqJ
    (indS 1 (.s s0) s19 fun p71 =>
      loadAt μ p71 fun v72 =>
      asI .i64 v72 fun n73 =>
      bif !(decide (n73 < (-1152921504606846976))) then
      (indS 1 (.s s0) s19 fun p74 =>
        loadAt μ p74 fun v75 =>
        asI .i64 v75 fun n76 =>
        some (.normal, [.s (.bool (decide (n76 > 1152921504606846976)))], μ))
      else
      (some (.normal, [.s (.bool true)], μ)))
    (fun vs77 m78 =>
      headK vs77 fun a79 r80 =>
      asB a79 fun b81 =>
      bif b81 then
      (some (.ret, [.s .nilSlice, .s (.int .i64 0)], m78))
      else
      (some (.normal, [.s (.int .i64 (IntKind.wrap .i64 (s19 + 1)))], m78)))
    (fun vs82 m83 =>
      headK vs82 fun a87 r88 =>
      asS a87 fun x89 =>
      headK r88 fun a90 r91 =>
      asI .i64 a90 fun n92 =>
      some (.ret, [.s x89, .s (.int .i64 n92)], m83))
    (fun d86 vs84 m85 =>
      none))
  else
  (some (.exit 0, [.s s0], μ)) := by kernel_rfl
theorem overdubref05_Scaled_L1_eq (os vs : List AV) (μ : AMem) : overdubref05_Scaled_L1 os vs μ = (overdubref05_Scaled_L1_B os vs μ).bind fun r => match r.1 with | .normal => overdubref05_Scaled_L1 os r.2.1 r.2.2 | _ => some r := loopA_eq _ _ _
theorem overdubref05_Scaled_eq (p0 : SV) (μ : AMem) : overdubref05_Scaled [.s p0] μ =
  seqJ
  ((lenS (.s p0)).bind fun l1 =>
    bif !(((l1 : Nat) : Int) == 0) then
    (indS 1 (.s p0) 0 fun p2 =>
      loadAt μ p2 fun v3 =>
      asI .i64 v3 fun n4 =>
      some (.normal, [.s (.bool (decide (n4 < 0)))], μ))
    else
    (some (.normal, [.s (.bool true)], μ)))
  (fun vs5 m6 =>
    headK vs5 fun a7 r8 =>
    asB a7 fun b9 =>
    bif b9 then
    (some (.tuple [.s .nilSlice, .s (.int .i64 0)], m6))
    else
    ((lenS (.s p0)).bind fun l10 =>
      seqJ (overdubref05_Scaled_L1 [.s p0, .s (.int .i64 ((l10 : Nat) : Int))] [.s (.int .i64 0)] m6)
      (fun _ _ => none)
      (fun vs11 m12 =>
        headK vs11 fun a16 r17 =>
        asS a16 fun x18 =>
        headK r17 fun a19 r20 =>
        asI .i64 a19 fun n21 =>
        some (.tuple [.s x18, .s (.int .i64 n21)], m12))
      (fun d15 vs13 m14 =>
        bif Nat.beq 0 d15 then (headK vs13 fun a22 r23 =>
          asS a22 fun x24 =>
          seqJ (overdubref05_Scaled_L2 [.s x24] [.s (.int .i64 0)] m14)
          (fun _ _ => none)
          (fun vs25 m26 =>
            headK vs25 fun a30 r31 =>
            asS a30 fun x32 =>
            headK r31 fun a33 r34 =>
            asI .i64 a33 fun n35 =>
            some (.tuple [.s x32, .s (.int .i64 n35)], m26))
          (fun d29 vs27 m28 =>
            bif Nat.beq 2 d29 then (headK vs27 fun a36 r37 =>
              asS a36 fun x38 =>
              headK r37 fun a39 r40 =>
              asI .i64 a39 fun n41 =>
              (lenS (.s x38)).bind fun l42 =>
              seqJ (overdubref05_Scaled_L3 [.s x38, .s (.int .i64 n41), .s (.int .i64 ((l42 : Nat) : Int))] [.s .nilSlice, .s (.int .i64 0)] m28)
              (fun _ _ => none)
              (fun vs43 m44 =>
                headK vs43 fun a48 r49 =>
                asS a48 fun x50 =>
                headK r49 fun a51 r52 =>
                asI .i64 a51 fun n53 =>
                some (.tuple [.s x50, .s (.int .i64 n53)], m44))
              (fun d47 vs45 m46 =>
                bif Nat.beq 4 d47 then (headK vs45 fun a54 r55 =>
                  asI .i64 a54 fun n56 =>
                  headK r55 fun a57 r58 =>
                  asS a57 fun x59 =>
                  some (.tuple [.s x59, .s (.int .i64 n56)], m46)) else (none))) else (none))) else (none))))
  (fun vs60 m61 =>
    headK vs60 fun a65 r66 =>
    asS a65 fun x67 =>
    headK r66 fun a68 r69 =>
    asI .i64 a68 fun n70 =>
    some (.tuple [.s x67, .s (.int .i64 n70)], m61))
  (fun d64 vs62 m63 =>
    none) := by kernel_rfl

/-! ### overdub/overdublaw07.LevinScales -/
noncomputable def G5 : FuncId → FunA := fun g => bif Nat.beq g 17 then overdubkeep_Cut_int else bif Nat.beq g 16 then levin_Scaled else bif Nat.beq g 18 then overdubref05_Scaled else bif Nat.beq g 13 then overdubkeep_Same_int else bif Nat.beq g 14 then overdublaw07_wakes else fun _ _ => none
theorem G5_17 : G5 17 = overdubkeep_Cut_int := by kernel_rfl
theorem G5_16 : G5 16 = levin_Scaled := by kernel_rfl
theorem G5_18 : G5 18 = overdubref05_Scaled := by kernel_rfl
theorem G5_13 : G5 13 = overdubkeep_Same_int := by kernel_rfl
theorem G5_14 : G5 14 = overdublaw07_wakes := by kernel_rfl
def A5 : Ann := .two (.leaf) (.two (.leaf) (.two (.leaf) (.two (.leaf) (.two (.leaf) (.leaf)))))
def R5 : Slots := [(2, .b)]
noncomputable def overdublaw07_LevinScales : FunA := denF Try.prog G5 Try.f5 A5 R5
theorem overdublaw07_LevinScales_eq (p0 : SV) (μ : AMem) : overdublaw07_LevinScales [.s p0] μ =
  (overdubkeep_Cut_int [.s p0, .s (.int .i64 14)] μ).bind fun r1 =>
  asS r1.1 fun x2 =>
  (levin_Scaled [.s x2] r1.2).bind fun r3 =>
  extrK 0 r3.1 fun t4 =>
  asS t4 fun x5 =>
  extrK 1 r3.1 fun t6 =>
  asI .i64 t6 fun n7 =>
  (overdubref05_Scaled [.s x2] r3.2).bind fun r8 =>
  extrK 0 r8.1 fun t9 =>
  asS t9 fun x10 =>
  extrK 1 r8.1 fun t11 =>
  asI .i64 t11 fun n12 =>
  bif (n7 == n12) then
  ((overdubkeep_Same_int [.s x5, .s x10] r8.2).bind fun r13 =>
    asB r13.1 fun b14 =>
    bif b14 then
    ((overdublaw07_wakes [] r13.2).bind fun r15 =>
      asB r15.1 fun b16 =>
      some (.s (.bool b16), r15.2))
    else
    (some (.s (.bool false), r13.2)))
  else
  (some (.s (.bool false), r8.2)) := by rw [← G5_17, ← G5_16, ← G5_18, ← G5_13, ← G5_14]; kernel_rfl

/-! ### overdub/levin.floor -/
noncomputable def G24 : FuncId → FunA := fun _ _ _ => none
def A24 : Ann := .two (.leaf) (.two (.leaf) (.join [(5, .i .i64)] [] [] (.two (.leaf) (.two (.leaf) (.leaf))) (.two (.leaf) (.leaf))))
def R24 : Slots := [(4, .i .i64)]
noncomputable def levin_floor : FunA := denF Try.prog G24 Try.f24 A24 R24
theorem levin_floor_eq (p0 : Int) (p1 : Int) (μ : AMem) : levin_floor [.s (.int .i64 p0), .s (.int .i64 p1)] μ =
  if p1 = 0 then none else
  (seqJ
    (if p1 = 0 then none else
      (bif decide ((Int.tmod p0 p1) < 0) then
        (some (.normal, [.s (.int .i64 (IntKind.wrap .i64 ((IntKind.wrap .i64 (Int.tdiv p0 p1)) - 1)))], μ))
        else
        (some (.normal, [.s (.int .i64 (IntKind.wrap .i64 (Int.tdiv p0 p1)))], μ))))
    (fun vs1 m2 =>
      headK vs1 fun a3 r4 =>
      asI .i64 a3 fun n5 =>
      some (.s (.int .i64 n5), m2))
    (fun vs6 m7 =>
      headK vs6 fun a11 r12 =>
      asI .i64 a11 fun n13 =>
      some (.s (.int .i64 n13), m7))
    (fun d10 vs8 m9 =>
      none)) := by kernel_rfl

/-! ### overdub/levin.Coefficients -/
noncomputable def G19 : FuncId → FunA := fun g => bif Nat.beq g 21 then fixed_Check else bif Nat.beq g 11 then levin_Auto else bif Nat.beq g 16 then levin_Scaled else bif Nat.beq g 24 then levin_floor else fun _ _ => none
theorem G19_21 : G19 21 = fixed_Check := by kernel_rfl
theorem G19_11 : G19 11 = levin_Auto := by kernel_rfl
theorem G19_16 : G19 16 = levin_Scaled := by kernel_rfl
theorem G19_24 : G19 24 = levin_floor := by kernel_rfl
def A19 : Ann := .two (.leaf) (.two (.join [(35, .b)] [0, 1] [] (.leaf) (.two (.two (.leaf) (.leaf)) (.leaf))) (.two (.leaf) (.two (.leaf) (.two (.leaf) (.two (.leaf) (.two (.two (.leaf) (.join [(11, .s)] [] [] (.loop [(10, .i .i64), (12, .i .i64)] [1, 8, 11] [0] (.two (.two (.leaf) (.two (.leaf) (.leaf))) (.two (.join [(1, .i .i64), (8, .s), (10, .i .i64), (11, .s), (12, .i .i64)] [] [] (.two (.two (.leaf) (.two (.two (.leaf) (.leaf)) (.leaf))) (.two (.leaf) (.two (.two (.leaf) (.join [(1, .i .i64), (8, .s), (10, .i .i64), (11, .s), (12, .i .i64), (13, .i .i64)] [] [] (.loop [(13, .i .i64), (14, .i .i64)] [1, 8, 10, 11, 12] [2] (.two (.two (.leaf) (.two (.leaf) (.leaf))) (.two (.join [(1, .i .i64), (8, .s), (10, .i .i64), (11, .s), (12, .i .i64), (13, .i .i64), (14, .i .i64)] [] [] (.ord [0, 1, 2, 3, 4, 5, 6, 7, 8, 9, 10, 11, 12, 13]) .leaf) (.leaf)))) .leaf)) (.two (.leaf) (.two (.leaf) (.two (.two (.leaf) (.join [(1, .i .i64), (8, .s), (10, .i .i64), (11, .s), (12, .i .i64), (13, .i .i64)] [] [] (.loop [(16, .i .i64)] [1, 8, 10, 11, 12, 13, 15] [4] (.two (.two (.leaf) (.two (.leaf) (.leaf))) (.two (.join [(1, .i .i64), (8, .s), (10, .i .i64), (11, .s), (12, .i .i64), (13, .i .i64), (15, .s), (16, .i .i64)] [] [] (.ord [0, 1, 2, 3, 4, 5, 6, 7, 8, 9, 10, 11, 12, 13, 14, 15, 16, 17]) .leaf) (.leaf)))) .leaf)) (.two (.leaf) (.leaf)))))))) .leaf) (.leaf)))) .leaf)) (.two (.two (.leaf) (.join [(11, .s)] [] [] (.loop [(128, .i .i64)] [11, 126, 127] [6] (.two (.leaf) (.two (.two (.leaf) (.leaf)) (.two (.join [(11, .s), (126, .s), (127, .i .i64), (128, .i .i64)] [] [] (.two (.leaf) (.join [(137, .b)] [11, 126, 127, 128] [] (.leaf) (.two (.two (.leaf) (.leaf)) (.leaf)))) .leaf) (.leaf))))) .leaf)) (.two (.leaf) (.leaf)))))))))
def R19 : Slots := [(4, .s), (5, .b)]
noncomputable def levin_Coefficients : FunA := denF Try.prog G19 Try.f19 A19 R19
noncomputable def levin_Coefficients_L4_B (os vs : List AV) (μ : AMem) : Option Res := joinK [(16, .i .i64)] vs (envO [1, 8, 10, 11, 12, 13, 15] os) fun e => den Try.prog G19 Try.f19.ntmps (cL (cL (cR (cL (cR (cR (cR (cR (cR (cL (cL (cR (cL (cL (cR (cL (cR (cR (cR (cR (cR (cR (bodyOf Try.f19))))))))))))))))))))))) (aL (aL (aR (aL (aR (aR (aR (aR (aR (aL (aL (aR (aL (aL (aR (aL (aR (aR (aR (aR (aR (aR A19)))))))))))))))))))))) { ret := R19, exits := [(4, [(1, .i .i64), (8, .s), (10, .i .i64), (11, .s), (12, .i .i64), (13, .i .i64)]), (1, [(1, .i .i64), (8, .s), (10, .i .i64), (11, .s), (12, .i .i64)]), (0, [(11, .s)])] } Res e μ fun ex e μ => some (ex, valsOf (Lv.at { ret := R19, exits := [(4, [(1, .i .i64), (8, .s), (10, .i .i64), (11, .s), (12, .i .i64), (13, .i .i64)]), (1, [(1, .i .i64), (8, .s), (10, .i .i64), (11, .s), (12, .i .i64)]), (0, [(11, .s)])] } [(16, .i .i64)] ex) e, μ)
noncomputable def levin_Coefficients_L4 (os vs : List AV) (μ : AMem) : Option Res := loopA (levin_Coefficients_L4_B os) vs μ
noncomputable def levin_Coefficients_L3_B (os vs : List AV) (μ : AMem) : Option Res := joinK [(13, .i .i64), (14, .i .i64)] vs (envO [1, 8, 10, 11, 12] os) fun e => den Try.prog G19 Try.f19.ntmps (cL (cL (cR (cL (cR (cR (cL (cL (cR (cL (cL (cR (cL (cR (cR (cR (cR (cR (cR (bodyOf Try.f19)))))))))))))))))))) (aL (aL (aR (aL (aR (aR (aL (aL (aR (aL (aL (aR (aL (aR (aR (aR (aR (aR (aR A19))))))))))))))))))) { ret := R19, exits := [(2, [(1, .i .i64), (8, .s), (10, .i .i64), (11, .s), (12, .i .i64), (13, .i .i64)]), (1, [(1, .i .i64), (8, .s), (10, .i .i64), (11, .s), (12, .i .i64)]), (0, [(11, .s)])] } Res e μ fun ex e μ => some (ex, valsOf (Lv.at { ret := R19, exits := [(2, [(1, .i .i64), (8, .s), (10, .i .i64), (11, .s), (12, .i .i64), (13, .i .i64)]), (1, [(1, .i .i64), (8, .s), (10, .i .i64), (11, .s), (12, .i .i64)]), (0, [(11, .s)])] } [(13, .i .i64), (14, .i .i64)] ex) e, μ)
noncomputable def levin_Coefficients_L3 (os vs : List AV) (μ : AMem) : Option Res := loopA (levin_Coefficients_L3_B os) vs μ
noncomputable def levin_Coefficients_L2_B (os vs : List AV) (μ : AMem) : Option Res := joinK [(128, .i .i64)] vs (envO [11, 126, 127] os) fun e => den Try.prog G19 Try.f19.ntmps (cL (cL (cR (cL (cR (cR (cR (cR (cR (cR (cR (bodyOf Try.f19)))))))))))) (aL (aL (aR (aL (aR (aR (aR (aR (aR (aR (aR A19))))))))))) { ret := R19, exits := [(6, [(11, .s)])] } Res e μ fun ex e μ => some (ex, valsOf (Lv.at { ret := R19, exits := [(6, [(11, .s)])] } [(128, .i .i64)] ex) e, μ)
noncomputable def levin_Coefficients_L2 (os vs : List AV) (μ : AMem) : Option Res := loopA (levin_Coefficients_L2_B os) vs μ
noncomputable def levin_Coefficients_L1_B (os vs : List AV) (μ : AMem) : Option Res := joinK [(10, .i .i64), (12, .i .i64)] vs (envO [1, 8, 11] os) fun e => den Try.prog G19 Try.f19.ntmps (cL (cL (cR (cL (cR (cR (cR (cR (cR (cR (bodyOf Try.f19))))))))))) (aL (aL (aR (aL (aR (aR (aR (aR (aR (aR A19)))))))))) { ret := R19, exits := [(0, [(11, .s)])] } Res e μ fun ex e μ => some (ex, valsOf (Lv.at { ret := R19, exits := [(0, [(11, .s)])] } [(10, .i .i64), (12, .i .i64)] ex) e, μ)
noncomputable def levin_Coefficients_L1 (os vs : List AV) (μ : AMem) : Option Res := loopA (levin_Coefficients_L1_B os) vs μ
theorem levin_Coefficients_L4_B_eq (s1 : Int) (s8 : SV) (s10 : Int) (s11 : SV) (s12 : Int) (s13 : Int) (s15 : SV) (s16 : Int) (μ : AMem) : levin_Coefficients_L4_B [.s (.int .i64 s1), .s s8, .s (.int .i64 s10), .s s11, .s (.int .i64 s12), .s (.int .i64 s13), .s s15] [.s (.int .i64 s16)] μ =
  bif decide (s16 < s12) then
  (indS 1 (.s s15) s16 fun p159 =>
    loadAt μ p159 fun v160 =>
    asI .i64 v160 fun n161 =>
    indS 1 (.s s15) (IntKind.wrap .i64 (s12 - s16)) fun p162 =>
    loadAt μ p162 fun v163 =>
    asI .i64 v163 fun n164 =>
    indS 1 (.s s11) s16 fun p165 =>
    storeAt 1 μ p165 (.s (.int .i64 (IntKind.wrap .i64 (n161 - (Int.fdiv (IntKind.wrap .i64 (s13 * n164)) (2 ^ (12 : Nat))))))) fun m166 =>
    some (.normal, [.s (.int .i64 (IntKind.wrap .i64 (s16 + 1)))], m166))
  else
  (some (.exit 4, [.s (.int .i64 s1), .s s8, .s (.int .i64 s10), .s s11, .s (.int .i64 s12), .s (.int .i64 s13)], μ)) := by kernel_rfl
theorem levin_Coefficients_L4_eq (os vs : List AV) (μ : AMem) : levin_Coefficients_L4 os vs μ = (levin_Coefficients_L4_B os vs μ).bind fun r => match r.1 with | .normal => levin_Coefficients_L4 os r.2.1 r.2.2 | _ => some r := loopA_eq _ _ _
theorem levin_Coefficients_L3_B_eq (s1 : Int) (s8 : SV) (s10 : Int) (s11 : SV) (s12 : Int) (s13 : Int) (s14 : Int) (μ : AMem) : levin_Coefficients_L3_B [.s (.int .i64 s1), .s s8, .s (.int .i64 s10), .s s11, .s (.int .i64 s12)] [.s (.int .i64 s13), .s (.int .i64 s14)] μ =
  bif decide (s14 < s12) then
  (indS 1 (.s s11) s14 fun p153 =>
    loadAt μ p153 fun v154 =>
    asI .i64 v154 fun n155 =>
    indS 1 (.s s8) (IntKind.wrap .i64 (s12 - s14)) fun p156 =>
    loadAt μ p156 fun v157 =>
    asI .i64 v157 fun n158 =>
    some (.normal, [.s (.int .i64 (IntKind.wrap .i64 (s13 - (IntKind.wrap .i64 (n155 * n158))))), .s (.int .i64 (IntKind.wrap .i64 (s14 + 1)))], μ))
  else
  (some (.exit 2, [.s (.int .i64 s1), .s s8, .s (.int .i64 s10), .s s11, .s (.int .i64 s12), .s (.int .i64 s13)], μ)) := by kernel_rfl
theorem levin_Coefficients_L3_eq (os vs : List AV) (μ : AMem) : levin_Coefficients_L3 os vs μ = (levin_Coefficients_L3_B os vs μ).bind fun r => match r.1 with | .normal => levin_Coefficients_L3 os r.2.1 r.2.2 | _ => some r := loopA_eq _ _ _
theorem levin_Coefficients_L2_B_eq (s11 : SV) (s126 : SV) (s127 : Int) (s128 : Int) (μ : AMem) : levin_Coefficients_L2_B [.s s11, .s s126, .s (.int .i64 s127)] [.s (.int .i64 s128)] μ =
  bif decide (s128 < s127) then
  (indS 1 (.s s126) s128 fun p134 =>
    loadAt μ p134 fun v135 =>
    asI .i64 v135 fun n136 =>
    seqJ
    (bif !(decide (n136 < (-32768))) then
      (some (.normal, [.s (.bool (decide (n136 > 32767)))], μ))
      else
      (some (.normal, [.s (.bool true)], μ)))
    (fun vs137 m138 =>
      headK vs137 fun a139 r140 =>
      asB a139 fun b141 =>
      bif b141 then
      (some (.ret, [.s .nilSlice, .s (.bool false)], m138))
      else
      (some (.normal, [.s (.int .i64 (IntKind.wrap .i64 (s128 + 1)))], m138)))
    (fun vs142 m143 =>
      headK vs142 fun a147 r148 =>
      asS a147 fun x149 =>
      headK r148 fun a150 r151 =>
      asB a150 fun b152 =>
      some (.ret, [.s x149, .s (.bool b152)], m143))
    (fun d146 vs144 m145 =>
      none))
  else
  (some (.exit 6, [.s s11], μ)) := by kernel_rfl
theorem levin_Coefficients_L2_eq (os vs : List AV) (μ : AMem) : levin_Coefficients_L2 os vs μ = (levin_Coefficients_L2_B os vs μ).bind fun r => match r.1 with | .normal => levin_Coefficients_L2 os r.2.1 r.2.2 | _ => some r := loopA_eq _ _ _
theorem levin_Coefficients_L1_B_eq (s1 : Int) (s8 : SV) (s11 : SV) (s10 : Int) (s12 : Int) (μ : AMem) : levin_Coefficients_L1_B [.s (.int .i64 s1), .s s8, .s s11] [.s (.int .i64 s10), .s (.int .i64 s12)] μ =
  bif decide (s12 ≤ s1) then
  (bif decide (s10 < 1) then
    (some (.ret, [.s .nilSlice, .s (.bool false)], μ))
    else
    (indS 1 (.s s8) s12 fun p66 =>
      loadAt μ p66 fun v67 =>
      asI .i64 v67 fun n68 =>
      seqJ (levin_Coefficients_L3 [.s (.int .i64 s1), .s s8, .s (.int .i64 s10), .s s11, .s (.int .i64 s12)] [.s (.int .i64 (IntKind.wrap .i64 (n68 * 4096))), .s (.int .i64 1)] μ)
      (fun _ _ => none)
      (fun vs69 m70 =>
        headK vs69 fun a74 r75 =>
        asS a74 fun x76 =>
        headK r75 fun a77 r78 =>
        asB a77 fun b79 =>
        some (.ret, [.s x76, .s (.bool b79)], m70))
      (fun d73 vs71 m72 =>
        bif Nat.beq 2 d73 then (headK vs71 fun a80 r81 =>
          asI .i64 a80 fun n82 =>
          headK r81 fun a83 r84 =>
          asS a83 fun x85 =>
          headK r84 fun a86 r87 =>
          asI .i64 a86 fun n88 =>
          headK r87 fun a89 r90 =>
          asS a89 fun x91 =>
          headK r90 fun a92 r93 =>
          asI .i64 a92 fun n94 =>
          headK r93 fun a95 r96 =>
          asI .i64 a95 fun n97 =>
          (levin_floor [.s (.int .i64 n97), .s (.int .i64 n88)] m72).bind fun r98 =>
          asI .i64 r98.1 fun n99 =>
          appendA 3 1 8 (r98.2.next + 1) (r98.2.bump 3) (.s .nilSlice) (.s x91) fun x100 m101 =>
          asS x100 fun x102 =>
          seqJ (levin_Coefficients_L4 [.s (.int .i64 n82), .s x85, .s (.int .i64 n88), .s x91, .s (.int .i64 n94), .s (.int .i64 (if (if 4095 < n99 then 4095 else n99) > (-4095) then (if 4095 < n99 then 4095 else n99) else (-4095))), .s x102] [.s (.int .i64 1)] m101)
          (fun _ _ => none)
          (fun vs103 m104 =>
            headK vs103 fun a108 r109 =>
            asS a108 fun x110 =>
            headK r109 fun a111 r112 =>
            asB a111 fun b113 =>
            some (.ret, [.s x110, .s (.bool b113)], m104))
          (fun d107 vs105 m106 =>
            bif Nat.beq 4 d107 then (headK vs105 fun a114 r115 =>
              asI .i64 a114 fun n116 =>
              headK r115 fun a117 r118 =>
              asS a117 fun x119 =>
              headK r118 fun a120 r121 =>
              asI .i64 a120 fun n122 =>
              headK r121 fun a123 r124 =>
              asS a123 fun x125 =>
              headK r124 fun a126 r127 =>
              asI .i64 a126 fun n128 =>
              headK r127 fun a129 r130 =>
              asI .i64 a129 fun n131 =>
              indS 1 (.s x125) n128 fun p132 =>
              storeAt 1 m106 p132 (.s (.int .i64 n131)) fun m133 =>
              some (.normal, [.s (.int .i64 (IntKind.wrap .i64 (n122 - (Int.fdiv (IntKind.wrap .i64 ((Int.fdiv (IntKind.wrap .i64 (n131 * n131)) (2 ^ (12 : Nat))) * n122)) (2 ^ (12 : Nat)))))), .s (.int .i64 (IntKind.wrap .i64 (n128 + 1)))], m133)) else (none))) else (none))))
  else
  (some (.exit 0, [.s s11], μ)) := by rw [← G19_24]; kernel_rfl
theorem levin_Coefficients_L1_eq (os vs : List AV) (μ : AMem) : levin_Coefficients_L1 os vs μ = (levin_Coefficients_L1_B os vs μ).bind fun r => match r.1 with | .normal => levin_Coefficients_L1 os r.2.1 r.2.2 | _ => some r := loopA_eq _ _ _
theorem levin_Coefficients_eq (p0 : SV) (p1 : Int) (μ : AMem) : levin_Coefficients [.s p0, .s (.int .i64 p1)] μ =
  seqJ
  (bif !(decide (p1 < 1)) then
    (bif !(decide (p1 > 12)) then
      ((fixed_Check [.s p0] μ).bind fun r1 =>
        asI .i64 r1.1 fun n2 =>
        bif !(n2 != 0) then
        ((lenS (.s p0)).bind fun l3 =>
          some (.normal, [.s (.bool (decide (((l3 : Nat) : Int) ≤ p1)))], r1.2))
        else
        (some (.normal, [.s (.bool true)], r1.2)))
      else
      (some (.normal, [.s (.bool true)], μ)))
    else
    (some (.normal, [.s (.bool true)], μ)))
  (fun vs4 m5 =>
    headK vs4 fun a6 r7 =>
    asB a6 fun b8 =>
    bif b8 then
    (some (.tuple [.s .nilSlice, .s (.bool false)], m5))
    else
    ((levin_Auto [.s p0, .s (.int .i64 p1)] m5).bind fun r9 =>
      extrK 0 r9.1 fun t10 =>
      asS t10 fun x11 =>
      extrK 1 r9.1 fun t12 =>
      asI .i64 t12 fun n13 =>
      (levin_Scaled [.s x11] r9.2).bind fun r14 =>
      extrK 0 r14.1 fun t15 =>
      asS t15 fun x16 =>
      extrK 1 r14.1 fun t17 =>
      asI .i64 t17 fun n18 =>
      indS 1 (.s x16) 0 fun p19 =>
      loadAt r14.2 p19 fun v20 =>
      asI .i64 v20 fun n21 =>
      if 0 ≤ (IntKind.wrap .i64 (p1 + 1)) ∧ (IntKind.wrap .i64 (p1 + 1)) ≤ (IntKind.wrap .i64 (p1 + 1)) ∧ (IntKind.wrap .i64 (p1 + 1)) ≤ 9223372036854775807 ∧ (8 : Nat) * (IntKind.wrap .i64 (p1 + 1)) ≤ 140737488355328 then
      (seqJ (levin_Coefficients_L1 [.s (.int .i64 p1), .s x16, .s (.slice (r14.2.next + 2) 0 0 (Int.toNat (IntKind.wrap .i64 (p1 + 1))))] [.s (.int .i64 n21), .s (.int .i64 1)] ((r14.2.bump 4).set (r14.2.next + 2) (rowObj (zerosA [.int .i64 0] (Int.toNat (IntKind.wrap .i64 (p1 + 1)))) 1 3 (some (Int.toNat (IntKind.wrap .i64 (p1 + 1)))))))
        (fun _ _ => none)
        (fun vs22 m23 =>
          headK vs22 fun a27 r28 =>
          asS a27 fun x29 =>
          headK r28 fun a30 r31 =>
          asB a30 fun b32 =>
          some (.tuple [.s x29, .s (.bool b32)], m23))
        (fun d26 vs24 m25 =>
          bif Nat.beq 0 d26 then (headK vs24 fun a33 r34 =>
            asS a33 fun x35 =>
            (lenS (.s x35)).bind fun l36 =>
            cutS 1 (.s x35) 1 ((l36 : Nat) : Int) fun x37 =>
            (lenS x37).bind fun l38 =>
            seqJ (levin_Coefficients_L2 [.s x35, x37, .s (.int .i64 ((l38 : Nat) : Int))] [.s (.int .i64 0)] m25)
            (fun _ _ => none)
            (fun vs39 m40 =>
              headK vs39 fun a44 r45 =>
              asS a44 fun x46 =>
              headK r45 fun a47 r48 =>
              asB a47 fun b49 =>
              some (.tuple [.s x46, .s (.bool b49)], m40))
            (fun d43 vs41 m42 =>
              bif Nat.beq 6 d43 then (headK vs41 fun a50 r51 =>
                asS a50 fun x52 =>
                (lenS (.s x52)).bind fun l53 =>
                cutS 1 (.s x52) 1 ((l53 : Nat) : Int) fun x54 =>
                some (.tuple [x54, .s (.bool true)], m42)) else (none))) else (none))) else none))
  (fun vs55 m56 =>
    headK vs55 fun a60 r61 =>
    asS a60 fun x62 =>
    headK r61 fun a63 r64 =>
    asB a63 fun b65 =>
    some (.tuple [.s x62, .s (.bool b65)], m56))
  (fun d59 vs57 m58 =>
    none) := by rw [← G19_21, ← G19_11, ← G19_16]; kernel_rfl

/-! ### overdub/overdublaw07.LevinSigns -/
noncomputable def G6 : FuncId → FunA := fun g => bif Nat.beq g 10 then overdubkeep_Samples else bif Nat.beq g 15 then overdubkeep_Within else bif Nat.beq g 14 then overdublaw07_wakes else bif Nat.beq g 11 then levin_Auto else bif Nat.beq g 19 then levin_Coefficients else bif Nat.beq g 13 then overdubkeep_Same_int else fun _ _ => none
theorem G6_10 : G6 10 = overdubkeep_Samples := by kernel_rfl
theorem G6_15 : G6 15 = overdubkeep_Within := by kernel_rfl
theorem G6_14 : G6 14 = overdublaw07_wakes := by kernel_rfl
theorem G6_11 : G6 11 = levin_Auto := by kernel_rfl
theorem G6_19 : G6 19 = levin_Coefficients := by kernel_rfl
theorem G6_13 : G6 13 = overdubkeep_Same_int := by kernel_rfl
def A6 : Ann := .two (.leaf) (.two (.leaf) (.two (.leaf) (.two (.leaf) (.two (.two (.leaf) (.join [(0, .s), (1, .i .i64), (5, .s), (6, .s)] [] [] (.loop [(5, .s), (6, .s), (28, .i .i64)] [0, 1, 27] [0] (.two (.leaf) (.two (.two (.leaf) (.leaf)) (.two (.join [(0, .s), (1, .i .i64), (5, .s), (6, .s), (27, .i .i64), (28, .i .i64)] [] [] (.two (.leaf) (.two (.leaf) (.two (.two (.leaf) (.two (.two (.leaf) (.leaf)) (.leaf))) (.ord [0, 1, 4, 5, 6, 7, 8, 9, 10, 11, 12, 2, 3, 13, 14, 15, 16])))) .leaf) (.leaf))))) .leaf)) (.two (.leaf) (.two (.leaf) (.two (.leaf) (.two (.leaf) (.two (.leaf) (.two (.leaf) (.two (.leaf) (.leaf))))))))))))
def R6 : Slots := [(4, .b)]
noncomputable def overdublaw07_LevinSigns : FunA := denF Try.prog G6 Try.f6 A6 R6
noncomputable def overdublaw07_LevinSigns_L1_B (os vs : List AV) (μ : AMem) : Option Res := joinK [(5, .s), (6, .s), (28, .i .i64)] vs (envO [0, 1, 27] os) fun e => den Try.prog G6 Try.f6.ntmps (cL (cL (cR (cL (cR (cR (cR (cR (bodyOf Try.f6))))))))) (aL (aL (aR (aL (aR (aR (aR (aR A6)))))))) { ret := R6, exits := [(0, [(0, .s), (1, .i .i64), (5, .s), (6, .s)])] } Res e μ fun ex e μ => some (ex, valsOf (Lv.at { ret := R6, exits := [(0, [(0, .s), (1, .i .i64), (5, .s), (6, .s)])] } [(5, .s), (6, .s), (28, .i .i64)] ex) e, μ)
noncomputable def overdublaw07_LevinSigns_L1 (os vs : List AV) (μ : AMem) : Option Res := loopA (overdublaw07_LevinSigns_L1_B os) vs μ
theorem overdublaw07_LevinSigns_L1_B_eq (s0 : SV) (s1 : Int) (s27 : Int) (s5 : SV) (s6 : SV) (s28 : Int) (μ : AMem) : overdublaw07_LevinSigns_L1_B [.s s0, .s (.int .i64 s1), .s (.int .i64 s27)] [.s s5, .s s6, .s (.int .i64 s28)] μ =
  bif decide (s28 < s27) then
  (indS 1 (.s s0) s28 fun p67 =>
    loadAt μ p67 fun v68 =>
    asI .i64 v68 fun n69 =>
    indS 1 (.s s0) s28 fun p70 =>
    loadAt μ p70 fun v71 =>
    asI .i64 v71 fun n72 =>
    bif (n72 == (-8388608)) then
    ((overdublaw07_wakes [] μ).bind fun r73 =>
      asB r73.1 fun b74 =>
      some (.ret, [.s (.bool b74)], r73.2))
    else
    ((lenS (.s s0)).bind fun l75 =>
      indS 1 (.s s0) (IntKind.wrap .i64 ((IntKind.wrap .i64 (((l75 : Nat) : Int) - 1)) - s28)) fun p76 =>
      loadAt (μ.bump 17) p76 fun v77 =>
      asI .i64 v77 fun n78 =>
      checkA ((μ.bump 17).obj (μ.next + 2) = none)
      (appendA 3 1 8 (μ.next + 3) ((μ.bump 17).set (μ.next + 2) (rowObj [.int .i64 (IntKind.wrap .i64 (0 - n69))] 1 3 (some 1))) (.s s5) (.s (.slice (μ.next + 2) 0 0 1)) fun x79 m80 =>
        asS x79 fun x81 =>
        checkA (loadAt m80 p76 some = some (.s (.int .i64 n78)))
        (checkA (m80.obj (μ.next + 13) = none)
          (appendA 3 1 8 (μ.next + 14) (m80.set (μ.next + 13) (rowObj [.int .i64 n78] 1 3 (some 1))) (.s s6) (.s (.slice (μ.next + 13) 0 0 1)) fun x82 m83 =>
            asS x82 fun x84 =>
            some (.normal, [.s x81, .s x84, .s (.int .i64 (IntKind.wrap .i64 (s28 + 1)))], m83))))))
  else
  (some (.exit 0, [.s s0, .s (.int .i64 s1), .s s5, .s s6], μ)) := by rw [← G6_14]; kernel_rfl
theorem overdublaw07_LevinSigns_L1_eq (os vs : List AV) (μ : AMem) : overdublaw07_LevinSigns_L1 os vs μ = (overdublaw07_LevinSigns_L1_B os vs μ).bind fun r => match r.1 with | .normal => overdublaw07_LevinSigns_L1 os r.2.1 r.2.2 | _ => some r := loopA_eq _ _ _
theorem overdublaw07_LevinSigns_eq (p0 : SV) (p1 : Int) (μ : AMem) : overdublaw07_LevinSigns [.s p0, .s (.int .i64 p1)] μ =
  (overdubkeep_Samples [.s p0, .s (.int .i64 64), .s (.bool false)] μ).bind fun r1 =>
  asS r1.1 fun x2 =>
  (overdubkeep_Within [.s (.int .i64 p1), .s (.int .i64 12)] r1.2).bind fun r3 =>
  asI .i64 r3.1 fun n4 =>
  (lenS (.s x2)).bind fun l5 =>
  seqJ (overdublaw07_LevinSigns_L1 [.s x2, .s (.int .i64 (IntKind.wrap .i64 (1 + n4))), .s (.int .i64 ((l5 : Nat) : Int))] [.s .nilSlice, .s .nilSlice, .s (.int .i64 0)] r3.2)
  (fun _ _ => none)
  (fun vs6 m7 =>
    headK vs6 fun a11 r12 =>
    asB a11 fun b13 =>
    some (.s (.bool b13), m7))
  (fun d10 vs8 m9 =>
    bif Nat.beq 0 d10 then (headK vs8 fun a14 r15 =>
      asS a14 fun x16 =>
      headK r15 fun a17 r18 =>
      asI .i64 a17 fun n19 =>
      headK r18 fun a20 r21 =>
      asS a20 fun x22 =>
      headK r21 fun a23 r24 =>
      asS a23 fun x25 =>
      (levin_Auto [.s x16, .s (.int .i64 n19)] m9).bind fun r26 =>
      extrK 0 r26.1 fun t27 =>
      asS t27 fun x28 =>
      extrK 1 r26.1 fun t29 =>
      asI .i64 t29 fun n30 =>
      (levin_Auto [.s x22, .s (.int .i64 n19)] r26.2).bind fun r31 =>
      extrK 0 r31.1 fun t32 =>
      asS t32 fun x33 =>
      extrK 1 r31.1 fun t34 =>
      asI .i64 t34 fun n35 =>
      (levin_Auto [.s x25, .s (.int .i64 n19)] r31.2).bind fun r36 =>
      extrK 0 r36.1 fun t37 =>
      asS t37 fun x38 =>
      extrK 1 r36.1 fun t39 =>
      asI .i64 t39 fun n40 =>
      (levin_Coefficients [.s x16, .s (.int .i64 n19)] r36.2).bind fun r41 =>
      extrK 0 r41.1 fun t42 =>
      asS t42 fun x43 =>
      extrK 1 r41.1 fun t44 =>
      asB t44 fun b45 =>
      (levin_Coefficients [.s x22, .s (.int .i64 n19)] r41.2).bind fun r46 =>
      extrK 0 r46.1 fun t47 =>
      asS t47 fun x48 =>
      extrK 1 r46.1 fun t49 =>
      asB t49 fun b50 =>
      (levin_Coefficients [.s x25, .s (.int .i64 n19)] r46.2).bind fun r51 =>
      extrK 0 r51.1 fun t52 =>
      asS t52 fun x53 =>
      extrK 1 r51.1 fun t54 =>
      asB t54 fun b55 =>
      bif (n40 == 0) then
      ((lenS (.s x28)).bind fun l56 =>
        bif (((l56 : Nat) : Int) == (IntKind.wrap .i64 (n19 + 1))) then
        ((overdubkeep_Same_int [.s x28, .s x33] r51.2).bind fun r57 =>
          asB r57.1 fun b58 =>
          bif b58 then
          ((overdubkeep_Same_int [.s x28, .s x38] r57.2).bind fun r59 =>
            asB r59.1 fun b60 =>
            bif b60 then
            (bif (b45 == b50) then
              (bif (b45 == b55) then
                ((overdubkeep_Same_int [.s x43, .s x48] r59.2).bind fun r61 =>
                  asB r61.1 fun b62 =>
                  bif b62 then
                  ((overdubkeep_Same_int [.s x43, .s x53] r61.2).bind fun r63 =>
                    asB r63.1 fun b64 =>
                    bif b64 then
                    ((overdublaw07_wakes [] r63.2).bind fun r65 =>
                      asB r65.1 fun b66 =>
                      some (.s (.bool b66), r65.2))
                    else
                    (some (.s (.bool false), r63.2)))
                  else
                  (some (.s (.bool false), r61.2)))
                else
                (some (.s (.bool false), r59.2)))
              else
              (some (.s (.bool false), r59.2)))
            else
            (some (.s (.bool false), r59.2)))
          else
          (some (.s (.bool false), r57.2)))
        else
        (some (.s (.bool false), r51.2)))
      else
      (some (.s (.bool false), r51.2))) else (none)) := by rw [← G6_10, ← G6_15, ← G6_14, ← G6_11, ← G6_19, ← G6_13]; kernel_rfl

/-! ### overdub/overdublaw07.LevinNone -/
noncomputable def G7 : FuncId → FunA := fun g => bif Nat.beq g 15 then overdubkeep_Within else bif Nat.beq g 19 then levin_Coefficients else bif Nat.beq g 10 then overdubkeep_Samples else bif Nat.beq g 14 then overdublaw07_wakes else fun _ _ => none
theorem G7_15 : G7 15 = overdubkeep_Within := by kernel_rfl
theorem G7_19 : G7 19 = levin_Coefficients := by kernel_rfl
theorem G7_10 : G7 10 = overdubkeep_Samples := by kernel_rfl
theorem G7_14 : G7 14 = overdublaw07_wakes := by kernel_rfl
def A7 : Ann := .two (.leaf) (.two (.leaf) (.two (.leaf) (.two (.leaf) (.two (.leaf) (.two (.leaf) (.two (.leaf) (.two (.leaf) (.leaf))))))))
def R7 : Slots := [(6, .b)]
noncomputable def overdublaw07_LevinNone : FunA := denF Try.prog G7 Try.f7 A7 R7
theorem overdublaw07_LevinNone_eq (p0 : Int) (p1 : Int) (p2 : SV) (μ : AMem) : overdublaw07_LevinNone [.s (.int .i64 p0), .s (.int .i64 p1), .s p2] μ =
  (overdubkeep_Within [.s (.int .i64 p0), .s (.int .i64 65)] μ).bind fun r1 =>
  asI .i64 r1.1 fun n2 =>
  (overdubkeep_Within [.s (.int .i64 p1), .s (.int .i64 12)] r1.2).bind fun r3 =>
  asI .i64 r3.1 fun n4 =>
  if 0 ≤ n2 ∧ n2 ≤ n2 ∧ n2 ≤ 9223372036854775807 ∧ (8 : Nat) * n2 ≤ 140737488355328 then
  ((levin_Coefficients [.s (.slice (r3.2.next + 1) 0 0 (Int.toNat n2)), .s (.int .i64 (IntKind.wrap .i64 (1 + n4)))] ((r3.2.bump 9).set (r3.2.next + 1) (rowObj (zerosA [.int .i64 0] (Int.toNat n2)) 1 3 (some (Int.toNat n2))))).bind fun r5 =>
    extrK 0 r5.1 fun t6 =>
    asS t6 fun x7 =>
    extrK 1 r5.1 fun t8 =>
    asB t8 fun b9 =>
    (overdubkeep_Samples [.s p2, .s (.int .i64 (IntKind.wrap .i64 (1 + n4))), .s (.bool false)] r5.2).bind fun r10 =>
    asS r10.1 fun x11 =>
    (levin_Coefficients [.s x11, .s (.int .i64 (IntKind.wrap .i64 (1 + n4)))] r10.2).bind fun r12 =>
    extrK 0 r12.1 fun t13 =>
    asS t13 fun x14 =>
    extrK 1 r12.1 fun t15 =>
    asB t15 fun b16 =>
    (levin_Coefficients [.s (.slice (r12.2.next + 0) 0 0 3), .s (.int .i64 0)] ((r12.2.bump 7).set (r12.2.next + 0) (rowObj [.int .i64 1, .int .i64 2, .int .i64 3] 1 3 (some 3)))).bind fun r17 =>
    extrK 0 r17.1 fun t18 =>
    asS t18 fun x19 =>
    extrK 1 r17.1 fun t20 =>
    asB t20 fun b21 =>
    if 0 ≤ (20 : Int) ∧ (20 : Int) ≤ (20 : Int) ∧ (20 : Int) ≤ 9223372036854775807 ∧ (8 : Nat) * (20 : Int) ≤ 140737488355328 then
    ((levin_Coefficients [.s (.slice (r17.2.next + 0) 0 0 (Int.toNat 20)), .s (.int .i64 13)] ((r17.2.bump 7).set (r17.2.next + 0) (rowObj (zerosA [.int .i64 0] (Int.toNat 20)) 1 3 (some (Int.toNat 20))))).bind fun r22 =>
      extrK 0 r22.1 fun t23 =>
      asS t23 fun x24 =>
      extrK 1 r22.1 fun t25 =>
      asB t25 fun b26 =>
      bif (!b9) then
      (bif (!b16) then
        (bif (!b21) then
          (bif (!b26) then
            ((overdublaw07_wakes [] r22.2).bind fun r27 =>
              asB r27.1 fun b28 =>
              some (.s (.bool b28), r27.2))
            else
            (some (.s (.bool false), r22.2)))
          else
          (some (.s (.bool false), r22.2)))
        else
        (some (.s (.bool false), r22.2)))
      else
      (some (.s (.bool false), r22.2))) else none) else none := by rw [← G7_15, ← G7_19, ← G7_10, ← G7_14]; kernel_rfl

/-! ### overdub/overdubref05.MayCoefs -/
noncomputable def G25 : FuncId → FunA := fun _ _ _ => none
def A25 : Ann := .two (.leaf) (.two (.two (.leaf) (.join [(0, .s)] [] [] (.loop [(6, .i .i64)] [0, 5] [0] (.two (.leaf) (.two (.two (.leaf) (.leaf)) (.two (.join [(0, .s), (5, .i .i64), (6, .i .i64)] [] [] (.two (.leaf) (.join [(20, .b)] [0, 5, 6] [] (.leaf) (.two (.two (.leaf) (.leaf)) (.leaf)))) .leaf) (.leaf))))) .leaf)) (.two (.leaf) (.leaf)))
def R25 : Slots := [(2, .b)]
noncomputable def overdubref05_MayCoefs : FunA := denF Try.prog G25 Try.f25 A25 R25
noncomputable def overdubref05_MayCoefs_L1_B (os vs : List AV) (μ : AMem) : Option Res := joinK [(6, .i .i64)] vs (envO [0, 5] os) fun e => den Try.prog G25 Try.f25.ntmps (cL (cL (cR (cL (cR (bodyOf Try.f25)))))) (aL (aL (aR (aL (aR A25))))) { ret := R25, exits := [(0, [(0, .s)])] } Res e μ fun ex e μ => some (ex, valsOf (Lv.at { ret := R25, exits := [(0, [(0, .s)])] } [(6, .i .i64)] ex) e, μ)
noncomputable def overdubref05_MayCoefs_L1 (os vs : List AV) (μ : AMem) : Option Res := loopA (overdubref05_MayCoefs_L1_B os) vs μ
theorem overdubref05_MayCoefs_L1_B_eq (s0 : SV) (s5 : Int) (s6 : Int) (μ : AMem) : overdubref05_MayCoefs_L1_B [.s s0, .s (.int .i64 s5)] [.s (.int .i64 s6)] μ =
  bif decide (s6 < s5) then
  (seqJ
    (indS 1 (.s s0) s6 fun p15 =>
      loadAt μ p15 fun v16 =>
      asI .i64 v16 fun n17 =>
      bif !(decide (n17 < (-32768))) then
      (indS 1 (.s s0) s6 fun p18 =>
        loadAt μ p18 fun v19 =>
        asI .i64 v19 fun n20 =>
        some (.normal, [.s (.bool (decide (n20 > 32767)))], μ))
      else
      (some (.normal, [.s (.bool true)], μ)))
    (fun vs21 m22 =>
      headK vs21 fun a23 r24 =>
      asB a23 fun b25 =>
      bif b25 then
      (some (.ret, [.s (.bool false)], m22))
      else
      (some (.normal, [.s (.int .i64 (IntKind.wrap .i64 (s6 + 1)))], m22)))
    (fun vs26 m27 =>
      headK vs26 fun a31 r32 =>
      asB a31 fun b33 =>
      some (.ret, [.s (.bool b33)], m27))
    (fun d30 vs28 m29 =>
      none))
  else
  (some (.exit 0, [.s s0], μ)) := by kernel_rfl
theorem overdubref05_MayCoefs_L1_eq (os vs : List AV) (μ : AMem) : overdubref05_MayCoefs_L1 os vs μ = (overdubref05_MayCoefs_L1_B os vs μ).bind fun r => match r.1 with | .normal => overdubref05_MayCoefs_L1 os r.2.1 r.2.2 | _ => some r := loopA_eq _ _ _
theorem overdubref05_MayCoefs_eq (p0 : SV) (μ : AMem) : overdubref05_MayCoefs [.s p0] μ =
  (lenS (.s p0)).bind fun l1 =>
  seqJ (overdubref05_MayCoefs_L1 [.s p0, .s (.int .i64 ((l1 : Nat) : Int))] [.s (.int .i64 0)] μ)
  (fun _ _ => none)
  (fun vs2 m3 =>
    headK vs2 fun a7 r8 =>
    asB a7 fun b9 =>
    some (.s (.bool b9), m3))
  (fun d6 vs4 m5 =>
    bif Nat.beq 0 d6 then (headK vs4 fun a10 r11 =>
      asS a10 fun x12 =>
      (lenS (.s x12)).bind fun l13 =>
      bif decide (((l13 : Nat) : Int) ≥ 1) then
      ((lenS (.s x12)).bind fun l14 =>
        some (.s (.bool (decide (((l14 : Nat) : Int) ≤ 12))), m5))
      else
      (some (.s (.bool false), m5))) else (none)) := by kernel_rfl

/-! ### overdub/overdubref05.Coefficients -/
noncomputable def G20 : FuncId → FunA := fun g => bif Nat.beq g 12 then overdubref05_Auto else bif Nat.beq g 18 then overdubref05_Scaled else bif Nat.beq g 23 then overdubref05_down else bif Nat.beq g 25 then overdubref05_MayCoefs else fun _ _ => none
theorem G20_12 : G20 12 = overdubref05_Auto := by kernel_rfl
theorem G20_18 : G20 18 = overdubref05_Scaled := by kernel_rfl
theorem G20_23 : G20 23 = overdubref05_down := by kernel_rfl
theorem G20_25 : G20 25 = overdubref05_MayCoefs := by kernel_rfl
def A20 : Ann := .two (.leaf) (.two (.join [(29, .b)] [0, 1] [] (.leaf) (.two (.two (.leaf) (.leaf)) (.leaf))) (.two (.leaf) (.two (.two (.leaf) (.two (.two (.leaf) (.leaf)) (.leaf))) (.two (.leaf) (.two (.leaf) (.two (.leaf) (.two (.two (.leaf) (.join [(11, .s)] [] [] (.loop [(10, .i .i64), (12, .i .i64)] [1, 8, 11] [0] (.two (.two (.leaf) (.two (.leaf) (.leaf))) (.two (.join [(1, .i .i64), (8, .s), (10, .i .i64), (11, .s), (12, .i .i64)] [] [] (.two (.two (.leaf) (.two (.two (.leaf) (.leaf)) (.leaf))) (.two (.leaf) (.two (.two (.leaf) (.join [(1, .i .i64), (8, .s), (10, .i .i64), (11, .s), (12, .i .i64), (13, .i .i64)] [] [] (.loop [(13, .i .i64), (14, .i .i64)] [1, 8, 10, 11, 12] [2] (.two (.two (.leaf) (.two (.leaf) (.leaf))) (.two (.join [(1, .i .i64), (8, .s), (10, .i .i64), (11, .s), (12, .i .i64), (13, .i .i64), (14, .i .i64)] [] [] (.ord [0, 1, 2, 3, 4, 5, 6, 7, 8, 9, 10, 11, 12, 13]) .leaf) (.leaf)))) .leaf)) (.two (.leaf) (.two (.leaf) (.two (.two (.leaf) (.join [(1, .i .i64), (8, .s), (10, .i .i64), (11, .s), (12, .i .i64), (15, .i .i64)] [] [] (.loop [(17, .i .i64)] [1, 8, 10, 11, 12, 15, 16] [4] (.two (.two (.leaf) (.two (.leaf) (.leaf))) (.two (.join [(1, .i .i64), (8, .s), (10, .i .i64), (11, .s), (12, .i .i64), (15, .i .i64), (16, .s), (17, .i .i64)] [] [] (.ord [0, 1, 2, 3, 4, 5, 6, 7, 8, 9, 10, 11, 12, 13, 14, 15, 16, 17]) .leaf) (.leaf)))) .leaf)) (.two (.leaf) (.leaf)))))))) .leaf) (.leaf)))) .leaf)) (.two (.two (.leaf) (.two (.two (.leaf) (.leaf)) (.leaf))) (.two (.leaf) (.leaf))))))))))
def R20 : Slots := [(4, .s), (5, .b)]
noncomputable def overdubref05_Coefficients : FunA := denF Try.prog G20 Try.f20 A20 R20
noncomputable def overdubref05_Coefficients_L3_B (os vs : List AV) (μ : AMem) : Option Res := joinK [(17, .i .i64)] vs (envO [1, 8, 10, 11, 12, 15, 16] os) fun e => den Try.prog G20 Try.f20.ntmps (cL (cL (cR (cL (cR (cR (cR (cR (cR (cL (cL (cR (cL (cL (cR (cL (cR (cR (cR (cR (cR (cR (cR (bodyOf Try.f20)))))))))))))))))))))))) (aL (aL (aR (aL (aR (aR (aR (aR (aR (aL (aL (aR (aL (aL (aR (aL (aR (aR (aR (aR (aR (aR (aR A20))))))))))))))))))))))) { ret := R20, exits := [(4, [(1, .i .i64), (8, .s), (10, .i .i64), (11, .s), (12, .i .i64), (15, .i .i64)]), (1, [(1, .i .i64), (8, .s), (10, .i .i64), (11, .s), (12, .i .i64)]), (0, [(11, .s)])] } Res e μ fun ex e μ => some (ex, valsOf (Lv.at { ret := R20, exits := [(4, [(1, .i .i64), (8, .s), (10, .i .i64), (11, .s), (12, .i .i64), (15, .i .i64)]), (1, [(1, .i .i64), (8, .s), (10, .i .i64), (11, .s), (12, .i .i64)]), (0, [(11, .s)])] } [(17, .i .i64)] ex) e, μ)
noncomputable def overdubref05_Coefficients_L3 (os vs : List AV) (μ : AMem) : Option Res := loopA (overdubref05_Coefficients_L3_B os) vs μ
noncomputable def overdubref05_Coefficients_L2_B (os vs : List AV) (μ : AMem) : Option Res := joinK [(13, .i .i64), (14, .i .i64)] vs (envO [1, 8, 10, 11, 12] os) fun e => den Try.prog G20 Try.f20.ntmps (cL (cL (cR (cL (cR (cR (cL (cL (cR (cL (cL (cR (cL (cR (cR (cR (cR (cR (cR (cR (bodyOf Try.f20))))))))))))))))))))) (aL (aL (aR (aL (aR (aR (aL (aL (aR (aL (aL (aR (aL (aR (aR (aR (aR (aR (aR (aR A20)))))))))))))))))))) { ret := R20, exits := [(2, [(1, .i .i64), (8, .s), (10, .i .i64), (11, .s), (12, .i .i64), (13, .i .i64)]), (1, [(1, .i .i64), (8, .s), (10, .i .i64), (11, .s), (12, .i .i64)]), (0, [(11, .s)])] } Res e μ fun ex e μ => some (ex, valsOf (Lv.at { ret := R20, exits := [(2, [(1, .i .i64), (8, .s), (10, .i .i64), (11, .s), (12, .i .i64), (13, .i .i64)]), (1, [(1, .i .i64), (8, .s), (10, .i .i64), (11, .s), (12, .i .i64)]), (0, [(11, .s)])] } [(13, .i .i64), (14, .i .i64)] ex) e, μ)
noncomputable def overdubref05_Coefficients_L2 (os vs : List AV) (μ : AMem) : Option Res := loopA (overdubref05_Coefficients_L2_B os) vs μ
noncomputable def overdubref05_Coefficients_L1_B (os vs : List AV) (μ : AMem) : Option Res := joinK [(10, .i .i64), (12, .i .i64)] vs (envO [1, 8, 11] os) fun e => den Try.prog G20 Try.f20.ntmps (cL (cL (cR (cL (cR (cR (cR (cR (cR (cR (cR (bodyOf Try.f20)))))))))))) (aL (aL (aR (aL (aR (aR (aR (aR (aR (aR (aR A20))))))))))) { ret := R20, exits := [(0, [(11, .s)])] } Res e μ fun ex e μ => some (ex, valsOf (Lv.at { ret := R20, exits := [(0, [(11, .s)])] } [(10, .i .i64), (12, .i .i64)] ex) e, μ)
noncomputable def overdubref05_Coefficients_L1 (os vs : List AV) (μ : AMem) : Option Res := loopA (overdubref05_Coefficients_L1_B os) vs μ
theorem overdubref05_Coefficients_L3_B_eq (s1 : Int) (s8 : SV) (s10 : Int) (s11 : SV) (s12 : Int) (s15 : Int) (s16 : SV) (s17 : Int) (μ : AMem) : overdubref05_Coefficients_L3_B [.s (.int .i64 s1), .s s8, .s (.int .i64 s10), .s s11, .s (.int .i64 s12), .s (.int .i64 s15), .s s16] [.s (.int .i64 s17)] μ =
  bif decide (s17 < s12) then
  (indS 1 (.s s16) s17 fun p129 =>
    loadAt μ p129 fun v130 =>
    asI .i64 v130 fun n131 =>
    indS 1 (.s s16) (IntKind.wrap .i64 (s12 - s17)) fun p132 =>
    loadAt μ p132 fun v133 =>
    asI .i64 v133 fun n134 =>
    (overdubref05_down [.s (.int .i64 (IntKind.wrap .i64 (s15 * n134))), .s (.int .i64 4096)] μ).bind fun r135 =>
    asI .i64 r135.1 fun n136 =>
    checkA (loadAt r135.2 p129 some = some (.s (.int .i64 n131)))
    (indS 1 (.s s11) s17 fun p137 =>
      storeAt 1 r135.2 p137 (.s (.int .i64 (IntKind.wrap .i64 (n131 - n136)))) fun m138 =>
      some (.normal, [.s (.int .i64 (IntKind.wrap .i64 (s17 + 1)))], m138)))
  else
  (some (.exit 4, [.s (.int .i64 s1), .s s8, .s (.int .i64 s10), .s s11, .s (.int .i64 s12), .s (.int .i64 s15)], μ)) := by rw [← G20_23]; kernel_rfl
theorem overdubref05_Coefficients_L3_eq (os vs : List AV) (μ : AMem) : overdubref05_Coefficients_L3 os vs μ = (overdubref05_Coefficients_L3_B os vs μ).bind fun r => match r.1 with | .normal => overdubref05_Coefficients_L3 os r.2.1 r.2.2 | _ => some r := loopA_eq _ _ _
theorem overdubref05_Coefficients_L2_B_eq (s1 : Int) (s8 : SV) (s10 : Int) (s11 : SV) (s12 : Int) (s13 : Int) (s14 : Int) (μ : AMem) : overdubref05_Coefficients_L2_B [.s (.int .i64 s1), .s s8, .s (.int .i64 s10), .s s11, .s (.int .i64 s12)] [.s (.int .i64 s13), .s (.int .i64 s14)] μ =
  bif decide (s14 < s12) then
  (indS 1 (.s s11) s14 fun p123 =>
    loadAt μ p123 fun v124 =>
    asI .i64 v124 fun n125 =>
    indS 1 (.s s8) (IntKind.wrap .i64 (s12 - s14)) fun p126 =>
    loadAt μ p126 fun v127 =>
    asI .i64 v127 fun n128 =>
    some (.normal, [.s (.int .i64 (IntKind.wrap .i64 (s13 - (IntKind.wrap .i64 (n125 * n128))))), .s (.int .i64 (IntKind.wrap .i64 (s14 + 1)))], μ))
  else
  (some (.exit 2, [.s (.int .i64 s1), .s s8, .s (.int .i64 s10), .s s11, .s (.int .i64 s12), .s (.int .i64 s13)], μ)) := by kernel_rfl
theorem overdubref05_Coefficients_L2_eq (os vs : List AV) (μ : AMem) : overdubref05_Coefficients_L2 os vs μ = (overdubref05_Coefficients_L2_B os vs μ).bind fun r => match r.1 with | .normal => overdubref05_Coefficients_L2 os r.2.1 r.2.2 | _ => some r := loopA_eq _ _ _
theorem overdubref05_Coefficients_L1_B_eq (s1 : Int) (s8 : SV) (s11 : SV) (s10 : Int) (s12 : Int) (μ : AMem) : overdubref05_Coefficients_L1_B [.s (.int .i64 s1), .s s8, .s s11] [.s (.int .i64 s10), .s (.int .i64 s12)] μ =
  bif decide (s12 ≤ s1) then
  (bif decide (s10 < 1) then
    (some (.ret, [.s .nilSlice, .s (.bool false)], μ))
    else
    (indS 1 (.s s8) s12 fun p51 =>
      loadAt μ p51 fun v52 =>
      asI .i64 v52 fun n53 =>
      seqJ (overdubref05_Coefficients_L2 [.s (.int .i64 s1), .s s8, .s (.int .i64 s10), .s s11, .s (.int .i64 s12)] [.s (.int .i64 (IntKind.wrap .i64 (n53 * 4096))), .s (.int .i64 1)] μ)
      (fun _ _ => none)
      (fun vs54 m55 =>
        headK vs54 fun a59 r60 =>
        asS a59 fun x61 =>
        headK r60 fun a62 r63 =>
        asB a62 fun b64 =>
        some (.ret, [.s x61, .s (.bool b64)], m55))
      (fun d58 vs56 m57 =>
        bif Nat.beq 2 d58 then (headK vs56 fun a65 r66 =>
          asI .i64 a65 fun n67 =>
          headK r66 fun a68 r69 =>
          asS a68 fun x70 =>
          headK r69 fun a71 r72 =>
          asI .i64 a71 fun n73 =>
          headK r72 fun a74 r75 =>
          asS a74 fun x76 =>
          headK r75 fun a77 r78 =>
          asI .i64 a77 fun n79 =>
          headK r78 fun a80 r81 =>
          asI .i64 a80 fun n82 =>
          (overdubref05_down [.s (.int .i64 n82), .s (.int .i64 n73)] m57).bind fun r83 =>
          asI .i64 r83.1 fun n84 =>
          appendA 3 1 8 (r83.2.next + 1) (r83.2.bump 3) (.s .nilSlice) (.s x76) fun x85 m86 =>
          asS x85 fun x87 =>
          seqJ (overdubref05_Coefficients_L3 [.s (.int .i64 n67), .s x70, .s (.int .i64 n73), .s x76, .s (.int .i64 n79), .s (.int .i64 (if 4095 < (if (-4095) > n84 then (-4095) else n84) then 4095 else (if (-4095) > n84 then (-4095) else n84))), .s x87] [.s (.int .i64 1)] m86)
          (fun _ _ => none)
          (fun vs88 m89 =>
            headK vs88 fun a93 r94 =>
            asS a93 fun x95 =>
            headK r94 fun a96 r97 =>
            asB a96 fun b98 =>
            some (.ret, [.s x95, .s (.bool b98)], m89))
          (fun d92 vs90 m91 =>
            bif Nat.beq 4 d92 then (headK vs90 fun a99 r100 =>
              asI .i64 a99 fun n101 =>
              headK r100 fun a102 r103 =>
              asS a102 fun x104 =>
              headK r103 fun a105 r106 =>
              asI .i64 a105 fun n107 =>
              headK r106 fun a108 r109 =>
              asS a108 fun x110 =>
              headK r109 fun a111 r112 =>
              asI .i64 a111 fun n113 =>
              headK r112 fun a114 r115 =>
              asI .i64 a114 fun n116 =>
              indS 1 (.s x110) n113 fun p117 =>
              storeAt 1 m91 p117 (.s (.int .i64 n116)) fun m118 =>
              (overdubref05_down [.s (.int .i64 (IntKind.wrap .i64 (n116 * n116))), .s (.int .i64 4096)] m118).bind fun r119 =>
              asI .i64 r119.1 fun n120 =>
              (overdubref05_down [.s (.int .i64 (IntKind.wrap .i64 (n120 * n107))), .s (.int .i64 4096)] r119.2).bind fun r121 =>
              asI .i64 r121.1 fun n122 =>
              some (.normal, [.s (.int .i64 (IntKind.wrap .i64 (n107 - n122))), .s (.int .i64 (IntKind.wrap .i64 (n113 + 1)))], r121.2)) else (none))) else (none))))
  else
  (some (.exit 0, [.s s11], μ)) := by rw [← G20_23]; kernel_rfl
theorem overdubref05_Coefficients_L1_eq (os vs : List AV) (μ : AMem) : overdubref05_Coefficients_L1 os vs μ = (overdubref05_Coefficients_L1_B os vs μ).bind fun r => match r.1 with | .normal => overdubref05_Coefficients_L1 os r.2.1 r.2.2 | _ => some r := loopA_eq _ _ _
theorem overdubref05_Coefficients_eq (p0 : SV) (p1 : Int) (μ : AMem) : overdubref05_Coefficients [.s p0, .s (.int .i64 p1)] μ =
  seqJ
  (bif !(decide (p1 < 1)) then
    (bif !(decide (p1 > 12)) then
      ((lenS (.s p0)).bind fun l1 =>
        some (.normal, [.s (.bool (decide (((l1 : Nat) : Int) ≤ p1)))], μ))
      else
      (some (.normal, [.s (.bool true)], μ)))
    else
    (some (.normal, [.s (.bool true)], μ)))
  (fun vs2 m3 =>
    headK vs2 fun a4 r5 =>
    asB a4 fun b6 =>
    bif b6 then
    (some (.tuple [.s .nilSlice, .s (.bool false)], m3))
    else
    ((overdubref05_Auto [.s p0, .s (.int .i64 p1)] m3).bind fun r7 =>
      extrK 0 r7.1 fun t8 =>
      asS t8 fun x9 =>
      extrK 1 r7.1 fun t10 =>
      asI .i64 t10 fun n11 =>
      bif (n11 != 0) then
      (some (.tuple [.s .nilSlice, .s (.bool false)], r7.2))
      else
      ((overdubref05_Scaled [.s x9] r7.2).bind fun r12 =>
        extrK 0 r12.1 fun t13 =>
        asS t13 fun x14 =>
        extrK 1 r12.1 fun t15 =>
        asI .i64 t15 fun n16 =>
        indS 1 (.s x14) 0 fun p17 =>
        loadAt r12.2 p17 fun v18 =>
        asI .i64 v18 fun n19 =>
        if 0 ≤ (IntKind.wrap .i64 (p1 + 1)) ∧ (IntKind.wrap .i64 (p1 + 1)) ≤ (IntKind.wrap .i64 (p1 + 1)) ∧ (IntKind.wrap .i64 (p1 + 1)) ≤ 9223372036854775807 ∧ (8 : Nat) * (IntKind.wrap .i64 (p1 + 1)) ≤ 140737488355328 then
        (seqJ (overdubref05_Coefficients_L1 [.s (.int .i64 p1), .s x14, .s (.slice (r12.2.next + 2) 0 0 (Int.toNat (IntKind.wrap .i64 (p1 + 1))))] [.s (.int .i64 n19), .s (.int .i64 1)] ((r12.2.bump 4).set (r12.2.next + 2) (rowObj (zerosA [.int .i64 0] (Int.toNat (IntKind.wrap .i64 (p1 + 1)))) 1 3 (some (Int.toNat (IntKind.wrap .i64 (p1 + 1)))))))
          (fun _ _ => none)
          (fun vs20 m21 =>
            headK vs20 fun a25 r26 =>
            asS a25 fun x27 =>
            headK r26 fun a28 r29 =>
            asB a28 fun b30 =>
            some (.tuple [.s x27, .s (.bool b30)], m21))
          (fun d24 vs22 m23 =>
            bif Nat.beq 0 d24 then (headK vs22 fun a31 r32 =>
              asS a31 fun x33 =>
              (lenS (.s x33)).bind fun l34 =>
              cutS 1 (.s x33) 1 ((l34 : Nat) : Int) fun x35 =>
              (overdubref05_MayCoefs [x35] m23).bind fun r36 =>
              asB r36.1 fun b37 =>
              bif (!b37) then
              (some (.tuple [.s .nilSlice, .s (.bool false)], r36.2))
              else
              ((lenS (.s x33)).bind fun l38 =>
                cutS 1 (.s x33) 1 ((l38 : Nat) : Int) fun x39 =>
                some (.tuple [x39, .s (.bool true)], r36.2))) else (none))) else none)))
  (fun vs40 m41 =>
    headK vs40 fun a45 r46 =>
    asS a45 fun x47 =>
    headK r46 fun a48 r49 =>
    asB a48 fun b50 =>
    some (.tuple [.s x47, .s (.bool b50)], m41))
  (fun d44 vs42 m43 =>
    none) := by rw [← G20_12, ← G20_18, ← G20_25]; kernel_rfl

/-! ### overdub/overdublaw07.LevinCoefs -/
noncomputable def G8 : FuncId → FunA := fun g => bif Nat.beq g 10 then overdubkeep_Samples else bif Nat.beq g 19 then levin_Coefficients else bif Nat.beq g 20 then overdubref05_Coefficients else bif Nat.beq g 13 then overdubkeep_Same_int else bif Nat.beq g 14 then overdublaw07_wakes else fun _ _ => none
theorem G8_10 : G8 10 = overdubkeep_Samples := by kernel_rfl
theorem G8_19 : G8 19 = levin_Coefficients := by kernel_rfl
theorem G8_20 : G8 20 = overdubref05_Coefficients := by kernel_rfl
theorem G8_13 : G8 13 = overdubkeep_Same_int := by kernel_rfl
theorem G8_14 : G8 14 = overdublaw07_wakes := by kernel_rfl
def A8 : Ann := .two (.leaf) (.two (.leaf) (.two (.leaf) (.two (.leaf) (.two (.leaf) (.leaf)))))
def R8 : Slots := [(6, .b)]
noncomputable def overdublaw07_LevinCoefs : FunA := denF Try.prog G8 Try.f8 A8 R8
theorem overdublaw07_LevinCoefs_eq (p0 : SV) (p1 : Int) (p2 : Bool) (μ : AMem) : overdublaw07_LevinCoefs [.s p0, .s (.int .i64 p1), .s (.bool p2)] μ =
  (overdubkeep_Samples [.s p0, .s (.int .i64 70), .s (.bool p2)] μ).bind fun r1 =>
  asS r1.1 fun x2 =>
  (levin_Coefficients [.s x2, .s (.int .i64 p1)] r1.2).bind fun r3 =>
  extrK 0 r3.1 fun t4 =>
  asS t4 fun x5 =>
  extrK 1 r3.1 fun t6 =>
  asB t6 fun b7 =>
  (overdubref05_Coefficients [.s x2, .s (.int .i64 p1)] r3.2).bind fun r8 =>
  extrK 0 r8.1 fun t9 =>
  asS t9 fun x10 =>
  extrK 1 r8.1 fun t11 =>
  asB t11 fun b12 =>
  bif (b7 == b12) then
  ((overdubkeep_Same_int [.s x5, .s x10] r8.2).bind fun r13 =>
    asB r13.1 fun b14 =>
    bif b14 then
    ((overdublaw07_wakes [] r13.2).bind fun r15 =>
      asB r15.1 fun b16 =>
      some (.s (.bool b16), r15.2))
    else
    (some (.s (.bool false), r13.2)))
  else
  (some (.s (.bool false), r8.2)) := by rw [← G8_10, ← G8_19, ← G8_20, ← G8_13, ← G8_14]; kernel_rfl

/-! ### overdub/overdublaw07.LevinSmooth -/
noncomputable def G9 : FuncId → FunA := fun g => bif Nat.beq g 15 then overdubkeep_Within else bif Nat.beq g 11 then levin_Auto else bif Nat.beq g 13 then overdubkeep_Same_int else bif Nat.beq g 19 then levin_Coefficients else bif Nat.beq g 14 then overdublaw07_wakes else fun _ _ => none
theorem G9_15 : G9 15 = overdubkeep_Within := by kernel_rfl
theorem G9_11 : G9 11 = levin_Auto := by kernel_rfl
theorem G9_13 : G9 13 = overdubkeep_Same_int := by kernel_rfl
theorem G9_19 : G9 19 = levin_Coefficients := by kernel_rfl
theorem G9_14 : G9 14 = overdublaw07_wakes := by kernel_rfl
def A9 : Ann := .two (.leaf) (.two (.leaf) (.two (.leaf) (.two (.two (.leaf) (.join [(0, .i .i64), (1, .i .i64), (2, .i .i64), (7, .s), (8, .s)] [] [] (.loop [(7, .s), (8, .s), (9, .i .i64)] [0, 1, 2] [0] (.two (.two (.leaf) (.two (.leaf) (.leaf))) (.two (.join [(0, .i .i64), (1, .i .i64), (2, .i .i64), (7, .s), (8, .s), (9, .i .i64)] [] [] (.leaf) .leaf) (.leaf)))) .leaf)) (.two (.leaf) (.two (.leaf) (.two (.join [(72, .b)] [0, 1, 7, 8, 10] [] (.leaf) (.two (.two (.leaf) (.leaf)) (.leaf))) (.two (.two (.leaf) (.join [(7, .s), (8, .s)] [] [] (.loop [(75, .i .i64)] [0, 1, 7, 8, 10, 74] [2] (.two (.leaf) (.two (.two (.leaf) (.leaf)) (.two (.join [(0, .i .i64), (1, .i .i64), (7, .s), (8, .s), (10, .s), (74, .i .i64), (75, .i .i64)] [] [] (.two (.leaf) (.two (.leaf) (.two (.two (.leaf) (.leaf)) (.leaf)))) .leaf) (.leaf))))) .leaf)) (.two (.leaf) (.two (.leaf) (.two (.leaf) (.leaf)))))))))))
def R9 : Slots := [(6, .b)]
noncomputable def overdublaw07_LevinSmooth : FunA := denF Try.prog G9 Try.f9 A9 R9
noncomputable def overdublaw07_LevinSmooth_L2_B (os vs : List AV) (μ : AMem) : Option Res := joinK [(75, .i .i64)] vs (envO [0, 1, 7, 8, 10, 74] os) fun e => den Try.prog G9 Try.f9.ntmps (cL (cL (cR (cL (cR (cR (cR (cR (cR (cR (cR (bodyOf Try.f9)))))))))))) (aL (aL (aR (aL (aR (aR (aR (aR (aR (aR (aR A9))))))))))) { ret := R9, exits := [(2, [(7, .s), (8, .s)])] } Res e μ fun ex e μ => some (ex, valsOf (Lv.at { ret := R9, exits := [(2, [(7, .s), (8, .s)])] } [(75, .i .i64)] ex) e, μ)
noncomputable def overdublaw07_LevinSmooth_L2 (os vs : List AV) (μ : AMem) : Option Res := loopA (overdublaw07_LevinSmooth_L2_B os) vs μ
noncomputable def overdublaw07_LevinSmooth_L1_B (os vs : List AV) (μ : AMem) : Option Res := joinK [(7, .s), (8, .s), (9, .i .i64)] vs (envO [0, 1, 2] os) fun e => den Try.prog G9 Try.f9.ntmps (cL (cL (cR (cL (cR (cR (cR (bodyOf Try.f9)))))))) (aL (aL (aR (aL (aR (aR (aR A9))))))) { ret := R9, exits := [(0, [(0, .i .i64), (1, .i .i64), (2, .i .i64), (7, .s), (8, .s)])] } Res e μ fun ex e μ => some (ex, valsOf (Lv.at { ret := R9, exits := [(0, [(0, .i .i64), (1, .i .i64), (2, .i .i64), (7, .s), (8, .s)])] } [(7, .s), (8, .s), (9, .i .i64)] ex) e, μ)
noncomputable def overdublaw07_LevinSmooth_L1 (os vs : List AV) (μ : AMem) : Option Res := loopA (overdublaw07_LevinSmooth_L1_B os) vs μ
theorem overdublaw07_LevinSmooth_L2_B_eq (s0 : Int) (s1 : Int) (s7 : SV) (s8 : SV) (s10 : SV) (s74 : Int) (s75 : Int) (μ : AMem) : overdublaw07_LevinSmooth_L2_B [.s (.int .i64 s0), .s (.int .i64 s1), .s s7, .s s8, .s s10, .s (.int .i64 s74)] [.s (.int .i64 s75)] μ =
  bif decide (s75 < s74) then
  (indS 1 (.s s10) s75 fun p98 =>
    loadAt μ p98 fun v99 =>
    asI .i64 v99 fun n100 =>
    bif (n100 != (IntKind.wrap .i64 ((IntKind.wrap .i64 (s0 * s0)) * (IntKind.wrap .i64 (s1 - s75))))) then
    (some (.ret, [.s (.bool false)], μ))
    else
    (some (.normal, [.s (.int .i64 (IntKind.wrap .i64 (s75 + 1)))], μ)))
  else
  (some (.exit 2, [.s s7, .s s8], μ)) := by kernel_rfl
theorem overdublaw07_LevinSmooth_L2_eq (os vs : List AV) (μ : AMem) : overdublaw07_LevinSmooth_L2 os vs μ = (overdublaw07_LevinSmooth_L2_B os vs μ).bind fun r => match r.1 with | .normal => overdublaw07_LevinSmooth_L2 os r.2.1 r.2.2 | _ => some r := loopA_eq _ _ _
theorem overdublaw07_LevinSmooth_L1_B_eq (s0 : Int) (s1 : Int) (s2 : Int) (s7 : SV) (s8 : SV) (s9 : Int) (μ : AMem) : overdublaw07_LevinSmooth_L1_B [.s (.int .i64 s0), .s (.int .i64 s1), .s (.int .i64 s2)] [.s s7, .s s8, .s (.int .i64 s9)] μ =
  bif decide (s9 < s1) then
  (appendA 3 1 8 (μ.next + 3) ((μ.bump 11).set (μ.next + 2) (rowObj [.int .i64 s0] 1 3 (some 1))) (.s s7) (.s (.slice (μ.next + 2) 0 0 1)) fun x92 m93 =>
    asS x92 fun x94 =>
    appendA 3 1 8 (μ.next + 8) (m93.set (μ.next + 7) (rowObj [.int .i64 (IntKind.wrap .i64 (0 - s0))] 1 3 (some 1))) (.s s8) (.s (.slice (μ.next + 7) 0 0 1)) fun x95 m96 =>
    asS x95 fun x97 =>
    some (.normal, [.s x94, .s x97, .s (.int .i64 (IntKind.wrap .i64 (s9 + 1)))], m96))
  else
  (some (.exit 0, [.s (.int .i64 s0), .s (.int .i64 s1), .s (.int .i64 s2), .s s7, .s s8], μ)) := by kernel_rfl
theorem overdublaw07_LevinSmooth_L1_eq (os vs : List AV) (μ : AMem) : overdublaw07_LevinSmooth_L1 os vs μ = (overdublaw07_LevinSmooth_L1_B os vs μ).bind fun r => match r.1 with | .normal => overdublaw07_LevinSmooth_L1 os r.2.1 r.2.2 | _ => some r := loopA_eq _ _ _
theorem overdublaw07_LevinSmooth_eq (p0 : Int) (p1 : Int) (p2 : Int) (μ : AMem) : overdublaw07_LevinSmooth [.s (.int .i64 p0), .s (.int .i64 p1), .s (.int .i64 p2)] μ =
  (overdubkeep_Within [.s (.int .i64 p0), .s (.int .i64 1000000)] μ).bind fun r1 =>
  asI .i64 r1.1 fun n2 =>
  (overdubkeep_Within [.s (.int .i64 p1), .s (.int .i64 44)] r1.2).bind fun r3 =>
  asI .i64 r3.1 fun n4 =>
  (overdubkeep_Within [.s (.int .i64 p2), .s (.int .i64 12)] r3.2).bind fun r5 =>
  asI .i64 r5.1 fun n6 =>
  seqJ (overdublaw07_LevinSmooth_L1 [.s (.int .i64 (IntKind.wrap .i64 (1 + n2))), .s (.int .i64 (IntKind.wrap .i64 (20 + n4))), .s (.int .i64 (IntKind.wrap .i64 (1 + n6)))] [.s .nilSlice, .s .nilSlice, .s (.int .i64 0)] r5.2)
  (fun _ _ => none)
  (fun vs7 m8 =>
    headK vs7 fun a12 r13 =>
    asB a12 fun b14 =>
    some (.s (.bool b14), m8))
  (fun d11 vs9 m10 =>
    bif Nat.beq 0 d11 then (headK vs9 fun a15 r16 =>
      asI .i64 a15 fun n17 =>
      headK r16 fun a18 r19 =>
      asI .i64 a18 fun n20 =>
      headK r19 fun a21 r22 =>
      asI .i64 a21 fun n23 =>
      headK r22 fun a24 r25 =>
      asS a24 fun x26 =>
      headK r25 fun a27 r28 =>
      asS a27 fun x29 =>
      (levin_Auto [.s x26, .s (.int .i64 n23)] m10).bind fun r30 =>
      extrK 0 r30.1 fun t31 =>
      asS t31 fun x32 =>
      extrK 1 r30.1 fun t33 =>
      asI .i64 t33 fun n34 =>
      (levin_Auto [.s x29, .s (.int .i64 n23)] r30.2).bind fun r35 =>
      extrK 0 r35.1 fun t36 =>
      asS t36 fun x37 =>
      extrK 1 r35.1 fun t38 =>
      asI .i64 t38 fun n39 =>
      seqJ
      (bif !(n34 != 0) then
        (bif !(n39 != 0) then
          ((overdubkeep_Same_int [.s x32, .s x37] r35.2).bind fun r40 =>
            asB r40.1 fun b41 =>
            bif !(!b41) then
            ((lenS (.s x32)).bind fun l42 =>
              some (.normal, [.s (.bool (((l42 : Nat) : Int) != (IntKind.wrap .i64 (n23 + 1))))], r40.2))
            else
            (some (.normal, [.s (.bool true)], r40.2)))
          else
          (some (.normal, [.s (.bool true)], r35.2)))
        else
        (some (.normal, [.s (.bool true)], r35.2)))
      (fun vs43 m44 =>
        headK vs43 fun a45 r46 =>
        asB a45 fun b47 =>
        bif b47 then
        (some (.s (.bool false), m44))
        else
        ((lenS (.s x32)).bind fun l48 =>
          seqJ (overdublaw07_LevinSmooth_L2 [.s (.int .i64 n17), .s (.int .i64 n20), .s x26, .s x29, .s x32, .s (.int .i64 ((l48 : Nat) : Int))] [.s (.int .i64 0)] m44)
          (fun _ _ => none)
          (fun vs49 m50 =>
            headK vs49 fun a54 r55 =>
            asB a54 fun b56 =>
            some (.s (.bool b56), m50))
          (fun d53 vs51 m52 =>
            bif Nat.beq 2 d53 then (headK vs51 fun a57 r58 =>
              asS a57 fun x59 =>
              headK r58 fun a60 r61 =>
              asS a60 fun x62 =>
              (levin_Coefficients [.s x59, .s (.int .i64 1)] m52).bind fun r63 =>
              extrK 0 r63.1 fun t64 =>
              asS t64 fun x65 =>
              extrK 1 r63.1 fun t66 =>
              asB t66 fun b67 =>
              (levin_Coefficients [.s x62, .s (.int .i64 1)] r63.2).bind fun r68 =>
              extrK 0 r68.1 fun t69 =>
              asS t69 fun x70 =>
              extrK 1 r68.1 fun t71 =>
              asB t71 fun b72 =>
              bif b67 then
              (bif b72 then
                ((overdubkeep_Same_int [.s x65, .s x70] r68.2).bind fun r73 =>
                  asB r73.1 fun b74 =>
                  bif b74 then
                  ((lenS (.s x65)).bind fun l75 =>
                    bif (((l75 : Nat) : Int) == 1) then
                    (indS 1 (.s x65) 0 fun p76 =>
                      loadAt r73.2 p76 fun v77 =>
                      asI .i64 v77 fun n78 =>
                      bif decide (n78 > 3800) then
                      (indS 1 (.s x65) 0 fun p79 =>
                        loadAt r73.2 p79 fun v80 =>
                        asI .i64 v80 fun n81 =>
                        bif decide (n81 ≤ 4095) then
                        ((overdublaw07_wakes [] r73.2).bind fun r82 =>
                          asB r82.1 fun b83 =>
                          some (.s (.bool b83), r82.2))
                        else
                        (some (.s (.bool false), r73.2)))
                      else
                      (some (.s (.bool false), r73.2)))
                    else
                    (some (.s (.bool false), r73.2)))
                  else
                  (some (.s (.bool false), r73.2)))
                else
                (some (.s (.bool false), r68.2)))
              else
              (some (.s (.bool false), r68.2))) else (none))))
      (fun vs84 m85 =>
        headK vs84 fun a89 r90 =>
        asB a89 fun b91 =>
        some (.s (.bool b91), m85))
      (fun d88 vs86 m87 =>
        none)) else (none)) := by rw [← G9_15, ← G9_11, ← G9_13, ← G9_19, ← G9_14]; kernel_rfl

end Go.Proofs.Ytkcaigagilpomaa
