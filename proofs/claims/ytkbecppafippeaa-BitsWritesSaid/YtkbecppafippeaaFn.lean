/- The Go functions as plain functions over abstract memory, and what each comes to. -/
import Derived.Test.YtkbecppafippeaaProg
import Derived.KernelRfl
import Derived.Test.YtkbecppafippeaaE0
namespace Go.Proofs.Ytkbecppafippeaa
open Go Go.Proofs.Ytkbecppafippeaa.E
set_option maxRecDepth 100000
set_option linter.unusedVariables false
/-! ### overdub/bits.NewWriter -/
noncomputable def G9 : FuncId → FunA := fun _ _ _ => none
def A9 : Ann := .two (.leaf) (.two (.leaf) (.leaf))
def R9 : Slots := [(0, .s)]
noncomputable def bits_NewWriter : FunA := denF Try.prog G9 Try.f9 A9 R9
theorem bits_NewWriter_eq  (μ : AMem) : bits_NewWriter [] μ =
  some (.s (.ptr (μ.next + 1) 0 0), ((μ.bump 3).set (μ.next + 1) (rowObj [.nilSlice, .int .i64 0] 2 55 (some 1)))) := by kernel_rfl

/-! ### overdub/overdubkeep.Within -/
noncomputable def G10 : FuncId → FunA := fun _ _ _ => none
def A10 : Ann := .two (.leaf) (.two (.two (.leaf) (.two (.two (.leaf) (.leaf)) (.leaf))) (.two (.leaf) (.join [(5, .i .i64)] [] [] (.two (.leaf) (.two (.leaf) (.leaf))) (.two (.leaf) (.leaf)))))
def R10 : Slots := [(4, .i .i64)]
noncomputable def overdubkeep_Within : FunA := denF Try.prog G10 Try.f10 A10 R10
theorem overdubkeep_Within_eq (p0 : Int) (p1 : Int) (μ : AMem) : overdubkeep_Within [.s (.int .i64 p0), .s (.int .i64 p1)] μ =
  bif decide (p1 < 1) then
  (some (.s (.int .i64 0), μ))
  else
  (if p1 = 0 then none else
    (seqJ
      (bif decide ((Int.tmod p0 p1) < 0) then
        (some (.normal, [.s (.int .i64 (IntKind.wrap .i64 ((Int.tmod p0 p1) + p1)))], μ))
        else
        (some (.normal, [.s (.int .i64 (Int.tmod p0 p1))], μ)))
      (fun vs1 m2 =>
        headK vs1 fun a3 r4 =>
        asI .i64 a3 fun n5 =>
        some (.s (.int .i64 n5), m2))
      (fun vs6 m7 =>
        headK vs6 fun a11 r12 =>
        asI .i64 a11 fun n13 =>
        some (.s (.int .i64 n13), m7))
      (fun d10 vs8 m9 =>
        none))) := by kernel_rfl

/-! ### (overdub/overdubref01.Bits).Ones -/
noncomputable def G11 : FuncId → FunA := fun _ _ _ => none
def A11 : Ann := .two (.leaf) (.two (.join [(13, .b)] [0, 1] [] (.leaf) (.two (.two (.leaf) (.leaf)) (.leaf))) (.two (.leaf) (.two (.two (.leaf) (.join [(6, .s)] [] [] (.loop [(6, .s), (7, .i .i64)] [1] [0] (.two (.two (.leaf) (.two (.leaf) (.leaf))) (.two (.join [(1, .i .i64), (6, .s), (7, .i .i64)] [] [] (.leaf) .leaf) (.leaf)))) .leaf)) (.two (.leaf) (.leaf)))))
def R11 : Slots := [(4, .s), (5, .b)]
noncomputable def overdubref01_Bits_Ones : FunA := denF Try.prog G11 Try.f11 A11 R11
noncomputable def overdubref01_Bits_Ones_L1_B (os vs : List AV) (μ : AMem) : Option Res := joinK [(6, .s), (7, .i .i64)] vs (envO [1] os) fun e => den Try.prog G11 Try.f11.ntmps (cL (cL (cR (cL (cR (cR (cR (bodyOf Try.f11)))))))) (aL (aL (aR (aL (aR (aR (aR A11))))))) { ret := R11, exits := [(0, [(6, .s)])] } Res e μ fun ex e μ => some (ex, valsOf (Lv.at { ret := R11, exits := [(0, [(6, .s)])] } [(6, .s), (7, .i .i64)] ex) e, μ)
noncomputable def overdubref01_Bits_Ones_L1 (os vs : List AV) (μ : AMem) : Option Res := loopA (overdubref01_Bits_Ones_L1_B os) vs μ
theorem overdubref01_Bits_Ones_L1_B_eq (s1 : Int) (s6 : SV) (s7 : Int) (μ : AMem) : overdubref01_Bits_Ones_L1_B [.s (.int .i64 s1)] [.s s6, .s (.int .i64 s7)] μ =
  bif decide (s7 < s1) then
  (appendA 5 1 1 (μ.next + 2) ((μ.bump 4).set (μ.next + 1) (rowObj [.int .u8 1] 1 5 (some 1))) (.s s6) (.s (.slice (μ.next + 1) 0 0 1)) fun x37 m38 =>
    asS x37 fun x39 =>
    some (.normal, [.s x39, .s (.int .i64 (IntKind.wrap .i64 (s7 + 1)))], m38))
  else
  (some (.exit 0, [.s s6], μ)) := by kernel_rfl
theorem overdubref01_Bits_Ones_L1_eq (os vs : List AV) (μ : AMem) : overdubref01_Bits_Ones_L1 os vs μ = (overdubref01_Bits_Ones_L1_B os vs μ).bind fun r => match r.1 with | .normal => overdubref01_Bits_Ones_L1 os r.2.1 r.2.2 | _ => some r := loopA_eq _ _ _
theorem overdubref01_Bits_Ones_eq (p0 : SV) (p1 : Int) (μ : AMem) : overdubref01_Bits_Ones [.s p0, .s (.int .i64 p1)] μ =
  seqJ
  (bif !(decide (p1 < 0)) then
    (some (.normal, [.s (.bool (decide (p1 > 1024)))], μ))
    else
    (some (.normal, [.s (.bool true)], μ)))
  (fun vs1 m2 =>
    headK vs1 fun a3 r4 =>
    asB a3 fun b5 =>
    bif b5 then
    (some (.tuple [.s p0, .s (.bool false)], m2))
    else
    (appendA 5 1 1 (m2.next + 1) (m2.bump 3) (.s .nilSlice) (.s p0) fun x6 m7 =>
      asS x6 fun x8 =>
      seqJ (overdubref01_Bits_Ones_L1 [.s (.int .i64 p1)] [.s x8, .s (.int .i64 0)] m7)
      (fun _ _ => none)
      (fun vs9 m10 =>
        headK vs9 fun a14 r15 =>
        asS a14 fun x16 =>
        headK r15 fun a17 r18 =>
        asB a17 fun b19 =>
        some (.tuple [.s x16, .s (.bool b19)], m10))
      (fun d13 vs11 m12 =>
        bif Nat.beq 0 d13 then (headK vs11 fun a20 r21 =>
          asS a20 fun x22 =>
          appendA 5 1 1 (m12.next + 2) ((m12.bump 5).set (m12.next + 1) (rowObj [.int .u8 0] 1 5 (some 1))) (.s x22) (.s (.slice (m12.next + 1) 0 0 1)) fun x23 m24 =>
          asS x23 fun x25 =>
          some (.tuple [.s x25, .s (.bool true)], m24)) else (none))))
  (fun vs26 m27 =>
    headK vs26 fun a31 r32 =>
    asS a31 fun x33 =>
    headK r32 fun a34 r35 =>
    asB a34 fun b36 =>
    some (.tuple [.s x33, .s (.bool b36)], m27))
  (fun d30 vs28 m29 =>
    none) := by kernel_rfl

/-! ### (*overdub/bits.Writer).put -/
noncomputable def G33 : FuncId → FunA := fun _ _ _ => none
def A33 : Ann := .join [] [0, 1] [] (.two (.leaf) (.two (.leaf) (.leaf))) (.join [] [0] [] (.two (.leaf) (.two (.ord [0, 1, 2, 3, 4, 5, 6, 7, 8, 9, 10, 11, 12, 13, 14, 15, 16, 17, 18, 19]) (.leaf))) (.leaf))
def R33 : Slots := []
noncomputable def bits_Writer_put : FunA := denF Try.prog G33 Try.f33 A33 R33
theorem bits_Writer_put_eq (p0 q0 o0 : Nat) (p1 : Bool) (μ : AMem) : bits_Writer_put [.s (.ptr p0 q0 o0), .s (.bool p1)] μ =
  seqJ
  ((μ.cell p0 q0 (o0 + 1)).bind fun x1 =>
    asI .i64 (.s x1) fun n2 =>
    bif ((Int.tmod n2 8) == 0) then
    (((μ.bump 10).cell p0 q0 (o0 + 0)).bind fun x3 =>
      appendA 5 1 1 (μ.next + 6) ((μ.bump 10).set (μ.next + 5) (rowObj [.int .u8 0] 1 5 (some 1))) (.s x3) (.s (.slice (μ.next + 5) 0 0 1)) fun x4 m5 =>
      asS x4 fun x6 =>
      (m5.store p0 q0 (o0 + 0) [x6]).bind fun m7 =>
      some (.normal, [], m7))
    else
    (some (.normal, [], μ)))
  (fun vs8 m9 =>
    seqJ
    (bif p1 then
      ((m9.cell p0 q0 (o0 + 0)).bind fun x10 =>
        (m9.cell p0 q0 (o0 + 1)).bind fun x11 =>
        asI .i64 (.s x11) fun n12 =>
        indS 1 (.s x10) (IntKind.wrap .i64 (Int.tdiv n12 8)) fun p13 =>
        loadAt m9 p13 fun v14 =>
        asI .u8 v14 fun n15 =>
        (m9.cell p0 q0 (o0 + 1)).bind fun x16 =>
        asI .i64 (.s x16) fun n17 =>
        if (Int.tmod n17 8) < 0 then none else
        (indS 1 (.s x10) (IntKind.wrap .i64 (Int.tdiv n12 8)) fun p18 =>
          storeAt 1 m9 p18 (.s (.int .u8 (IntKind.wrap .u8 (BitVec.toNat ((BitVec.ofInt (IntKind.bits .u8) n15) ||| (BitVec.ofInt (IntKind.bits .u8) (Int.fdiv 128 (2 ^ (min (Int.toNat (Int.tmod n17 8)) (IntKind.bits .u8)))))))))) fun m19 =>
          some (.normal, [], m19)))
      else
      (some (.normal, [], m9)))
    (fun vs20 m21 =>
      (m21.cell p0 q0 (o0 + 1)).bind fun x22 =>
      asI .i64 (.s x22) fun n23 =>
      (m21.store p0 q0 (o0 + 1) [.int .i64 (IntKind.wrap .i64 (n23 + 1))]).bind fun m24 =>
      some (.tuple [], m24))
    (fun vs25 m26 =>
      some (.tuple [], m26))
    (fun d29 vs27 m28 =>
      none))
  (fun vs30 m31 =>
    some (.tuple [], m31))
  (fun d34 vs32 m33 =>
    none) := by kernel_rfl

/-! ### (*overdub/bits.Writer).Ones -/
noncomputable def G12 : FuncId → FunA := fun g => bif Nat.beq g 33 then bits_Writer_put else fun _ _ => none
theorem G12_33 : G12 33 = bits_Writer_put := by kernel_rfl
def A12 : Ann := .two (.leaf) (.two (.join [(10, .b)] [0, 1] [] (.leaf) (.two (.two (.leaf) (.leaf)) (.leaf))) (.two (.two (.leaf) (.join [(0, .s)] [] [] (.loop [(12, .i .i64)] [0, 11] [0] (.two (.leaf) (.two (.two (.leaf) (.leaf)) (.two (.join [(0, .s), (11, .i .i64), (12, .i .i64)] [] [] (.leaf) .leaf) (.leaf))))) .leaf)) (.two (.leaf) (.two (.leaf) (.leaf)))))
def R12 : Slots := [(4, .b)]
noncomputable def bits_Writer_Ones : FunA := denF Try.prog G12 Try.f12 A12 R12
noncomputable def bits_Writer_Ones_L1_B (os vs : List AV) (μ : AMem) : Option Res := joinK [(12, .i .i64)] vs (envO [0, 11] os) fun e => den Try.prog G12 Try.f12.ntmps (cL (cL (cR (cL (cR (cR (bodyOf Try.f12))))))) (aL (aL (aR (aL (aR (aR A12)))))) { ret := R12, exits := [(0, [(0, .s)])] } Res e μ fun ex e μ => some (ex, valsOf (Lv.at { ret := R12, exits := [(0, [(0, .s)])] } [(12, .i .i64)] ex) e, μ)
noncomputable def bits_Writer_Ones_L1 (os vs : List AV) (μ : AMem) : Option Res := loopA (bits_Writer_Ones_L1_B os) vs μ
theorem bits_Writer_Ones_L1_B_eq (s0 t0 u0 : Nat) (s11 : Int) (s12 : Int) (μ : AMem) : bits_Writer_Ones_L1_B [.s (.ptr s0 t0 u0), .s (.int .i64 s11)] [.s (.int .i64 s12)] μ =
  bif decide (s12 < s11) then
  ((bits_Writer_put [.s (.ptr s0 t0 u0), .s (.bool true)] μ).bind fun r26 =>
    some (.normal, [.s (.int .i64 (IntKind.wrap .i64 (s12 + 1)))], r26.2))
  else
  (some (.exit 0, [.s (.ptr s0 t0 u0)], μ)) := by rw [← G12_33]; kernel_rfl
theorem bits_Writer_Ones_L1_eq (os vs : List AV) (μ : AMem) : bits_Writer_Ones_L1 os vs μ = (bits_Writer_Ones_L1_B os vs μ).bind fun r => match r.1 with | .normal => bits_Writer_Ones_L1 os r.2.1 r.2.2 | _ => some r := loopA_eq _ _ _
theorem bits_Writer_Ones_eq (p0 q0 o0 : Nat) (p1 : Int) (μ : AMem) : bits_Writer_Ones [.s (.ptr p0 q0 o0), .s (.int .i64 p1)] μ =
  seqJ
  (bif !(decide (p1 < 0)) then
    (some (.normal, [.s (.bool (decide (p1 > 1024)))], μ))
    else
    (some (.normal, [.s (.bool true)], μ)))
  (fun vs1 m2 =>
    headK vs1 fun a3 r4 =>
    asB a3 fun b5 =>
    bif b5 then
    (some (.s (.bool false), m2))
    else
    (seqJ (bits_Writer_Ones_L1 [.s (.ptr p0 q0 o0), .s (.int .i64 p1)] [.s (.int .i64 0)] m2)
      (fun _ _ => none)
      (fun vs6 m7 =>
        headK vs6 fun a11 r12 =>
        asB a11 fun b13 =>
        some (.s (.bool b13), m7))
      (fun d10 vs8 m9 =>
        bif Nat.beq 0 d10 then (headK vs8 fun a14 r15 =>
          asS a14 fun x16 =>
          (bits_Writer_put [.s x16, .s (.bool false)] m9).bind fun r17 =>
          some (.s (.bool true), r17.2)) else (none))))
  (fun vs18 m19 =>
    headK vs18 fun a23 r24 =>
    asB a23 fun b25 =>
    some (.s (.bool b25), m19))
  (fun d22 vs20 m21 =>
    none) := by rw [← G12_33]; kernel_rfl

/-! ### (overdub/overdubref01.Bits).Put -/
noncomputable def G13 : FuncId → FunA := fun _ _ _ => none
def A13 : Ann := .two (.leaf) (.two (.join [(15, .b)] [0, 1, 2] [] (.leaf) (.two (.two (.leaf) (.leaf)) (.leaf))) (.two (.leaf) (.two (.two (.leaf) (.join [(8, .s)] [] [] (.loop [(8, .s), (9, .i .i64)] [1] [0] (.two (.two (.leaf) (.two (.leaf) (.leaf))) (.two (.join [(1, .i .i64), (8, .s), (9, .i .i64)] [] [] (.leaf) .leaf) (.leaf)))) .leaf)) (.two (.leaf) (.leaf)))))
def R13 : Slots := [(6, .s), (7, .b)]
noncomputable def overdubref01_Bits_Put : FunA := denF Try.prog G13 Try.f13 A13 R13
noncomputable def overdubref01_Bits_Put_L1_B (os vs : List AV) (μ : AMem) : Option Res := joinK [(8, .s), (9, .i .i64)] vs (envO [1] os) fun e => den Try.prog G13 Try.f13.ntmps (cL (cL (cR (cL (cR (cR (cR (bodyOf Try.f13)))))))) (aL (aL (aR (aL (aR (aR (aR A13))))))) { ret := R13, exits := [(0, [(8, .s)])] } Res e μ fun ex e μ => some (ex, valsOf (Lv.at { ret := R13, exits := [(0, [(8, .s)])] } [(8, .s), (9, .i .i64)] ex) e, μ)
noncomputable def overdubref01_Bits_Put_L1 (os vs : List AV) (μ : AMem) : Option Res := loopA (overdubref01_Bits_Put_L1_B os) vs μ
theorem overdubref01_Bits_Put_L1_B_eq (s1 : Int) (s8 : SV) (s9 : Int) (μ : AMem) : overdubref01_Bits_Put_L1_B [.s (.int .i64 s1)] [.s s8, .s (.int .i64 s9)] μ =
  bif decide (s9 ≥ 0) then
  (if (IntKind.wrap .u64 s9) < 0 then none else
    (appendA 5 1 1 (μ.next + 8) ((μ.bump 10).set (μ.next + 7) (rowObj [.int .u8 (IntKind.wrap .u8 (IntKind.wrap .i64 (BitVec.toNat ((BitVec.ofInt (IntKind.bits .i64) (Int.fdiv s1 (2 ^ (min (Int.toNat (IntKind.wrap .u64 s9)) (IntKind.bits .i64))))) &&& (BitVec.ofInt (IntKind.bits .i64) 1)))))] 1 5 (some 1))) (.s s8) (.s (.slice (μ.next + 7) 0 0 1)) fun x34 m35 =>
      asS x34 fun x36 =>
      some (.normal, [.s x36, .s (.int .i64 (IntKind.wrap .i64 (s9 - 1)))], m35)))
  else
  (some (.exit 0, [.s s8], μ)) := by kernel_rfl
theorem overdubref01_Bits_Put_L1_eq (os vs : List AV) (μ : AMem) : overdubref01_Bits_Put_L1 os vs μ = (overdubref01_Bits_Put_L1_B os vs μ).bind fun r => match r.1 with | .normal => overdubref01_Bits_Put_L1 os r.2.1 r.2.2 | _ => some r := loopA_eq _ _ _
theorem overdubref01_Bits_Put_eq (p0 : SV) (p1 : Int) (p2 : Int) (μ : AMem) : overdubref01_Bits_Put [.s p0, .s (.int .i64 p1), .s (.int .i64 p2)] μ =
  seqJ
  (bif !(decide (p2 < 0)) then
    (some (.normal, [.s (.bool (decide (p2 > 62)))], μ))
    else
    (some (.normal, [.s (.bool true)], μ)))
  (fun vs1 m2 =>
    headK vs1 fun a3 r4 =>
    asB a3 fun b5 =>
    bif b5 then
    (some (.tuple [.s p0, .s (.bool false)], m2))
    else
    (appendA 5 1 1 (m2.next + 1) (m2.bump 3) (.s .nilSlice) (.s p0) fun x6 m7 =>
      asS x6 fun x8 =>
      seqJ (overdubref01_Bits_Put_L1 [.s (.int .i64 p1)] [.s x8, .s (.int .i64 (IntKind.wrap .i64 (p2 - 1)))] m7)
      (fun _ _ => none)
      (fun vs9 m10 =>
        headK vs9 fun a14 r15 =>
        asS a14 fun x16 =>
        headK r15 fun a17 r18 =>
        asB a17 fun b19 =>
        some (.tuple [.s x16, .s (.bool b19)], m10))
      (fun d13 vs11 m12 =>
        bif Nat.beq 0 d13 then (headK vs11 fun a20 r21 =>
          asS a20 fun x22 =>
          some (.tuple [.s x22, .s (.bool true)], m12)) else (none))))
  (fun vs23 m24 =>
    headK vs23 fun a28 r29 =>
    asS a28 fun x30 =>
    headK r29 fun a31 r32 =>
    asB a31 fun b33 =>
    some (.tuple [.s x30, .s (.bool b33)], m24))
  (fun d27 vs25 m26 =>
    none) := by kernel_rfl

/-! ### (*overdub/bits.Writer).Put -/
noncomputable def G14 : FuncId → FunA := fun g => bif Nat.beq g 33 then bits_Writer_put else fun _ _ => none
theorem G14_33 : G14 33 = bits_Writer_put := by kernel_rfl
def A14 : Ann := .two (.leaf) (.two (.join [(13, .b)] [0, 1, 2] [] (.leaf) (.two (.two (.leaf) (.leaf)) (.leaf))) (.two (.two (.leaf) (.join [] [] [] (.loop [(7, .i .i64)] [0, 1] [0] (.two (.two (.leaf) (.two (.leaf) (.leaf))) (.two (.join [(0, .s), (1, .i .i64), (7, .i .i64)] [] [] (.leaf) .leaf) (.leaf)))) .leaf)) (.two (.leaf) (.leaf))))
def R14 : Slots := [(6, .b)]
noncomputable def bits_Writer_Put : FunA := denF Try.prog G14 Try.f14 A14 R14
noncomputable def bits_Writer_Put_L1_B (os vs : List AV) (μ : AMem) : Option Res := joinK [(7, .i .i64)] vs (envO [0, 1] os) fun e => den Try.prog G14 Try.f14.ntmps (cL (cL (cR (cL (cR (cR (bodyOf Try.f14))))))) (aL (aL (aR (aL (aR (aR A14)))))) { ret := R14, exits := [(0, [])] } Res e μ fun ex e μ => some (ex, valsOf (Lv.at { ret := R14, exits := [(0, [])] } [(7, .i .i64)] ex) e, μ)
noncomputable def bits_Writer_Put_L1 (os vs : List AV) (μ : AMem) : Option Res := loopA (bits_Writer_Put_L1_B os) vs μ
theorem bits_Writer_Put_L1_B_eq (s0 t0 u0 : Nat) (s1 : Int) (s7 : Int) (μ : AMem) : bits_Writer_Put_L1_B [.s (.ptr s0 t0 u0), .s (.int .i64 s1)] [.s (.int .i64 s7)] μ =
  bif decide (s7 ≥ 0) then
  (if s7 < 0 then none else
    ((bits_Writer_put [.s (.ptr s0 t0 u0), .s (.bool ((IntKind.wrap .i64 (BitVec.toNat ((BitVec.ofInt (IntKind.bits .i64) (Int.fdiv s1 (2 ^ (min (Int.toNat s7) (IntKind.bits .i64))))) &&& (BitVec.ofInt (IntKind.bits .i64) 1)))) == 1))] μ).bind fun r22 =>
      some (.normal, [.s (.int .i64 (IntKind.wrap .i64 (s7 - 1)))], r22.2)))
  else
  (some (.exit 0, [], μ)) := by rw [← G14_33]; kernel_rfl
theorem bits_Writer_Put_L1_eq (os vs : List AV) (μ : AMem) : bits_Writer_Put_L1 os vs μ = (bits_Writer_Put_L1_B os vs μ).bind fun r => match r.1 with | .normal => bits_Writer_Put_L1 os r.2.1 r.2.2 | _ => some r := loopA_eq _ _ _
theorem bits_Writer_Put_eq (p0 q0 o0 : Nat) (p1 : Int) (p2 : Int) (μ : AMem) : bits_Writer_Put [.s (.ptr p0 q0 o0), .s (.int .i64 p1), .s (.int .i64 p2)] μ =
  seqJ
  (bif !(decide (p2 < 0)) then
    (some (.normal, [.s (.bool (decide (p2 > 62)))], μ))
    else
    (some (.normal, [.s (.bool true)], μ)))
  (fun vs1 m2 =>
    headK vs1 fun a3 r4 =>
    asB a3 fun b5 =>
    bif b5 then
    (some (.s (.bool false), m2))
    else
    (seqJ (bits_Writer_Put_L1 [.s (.ptr p0 q0 o0), .s (.int .i64 p1)] [.s (.int .i64 (IntKind.wrap .i64 (p2 - 1)))] m2)
      (fun _ _ => none)
      (fun vs6 m7 =>
        headK vs6 fun a11 r12 =>
        asB a11 fun b13 =>
        some (.s (.bool b13), m7))
      (fun d10 vs8 m9 =>
        bif Nat.beq 0 d10 then (some (.s (.bool true), m9)) else (none))))
  (fun vs14 m15 =>
    headK vs14 fun a19 r20 =>
    asB a19 fun b21 =>
    some (.s (.bool b21), m15))
  (fun d18 vs16 m17 =>
    none) := by kernel_rfl

/-! ### (*overdub/bits.Writer).Len -/
noncomputable def G15 : FuncId → FunA := fun _ _ _ => none
def A15 : Ann := .two (.leaf) (.two (.leaf) (.leaf))
def R15 : Slots := [(2, .i .i64)]
noncomputable def bits_Writer_Len : FunA := denF Try.prog G15 Try.f15 A15 R15
theorem bits_Writer_Len_eq (p0 q0 o0 : Nat) (μ : AMem) : bits_Writer_Len [.s (.ptr p0 q0 o0)] μ =
  (μ.cell p0 q0 (o0 + 1)).bind fun x1 =>
  asI .i64 (.s x1) fun n2 =>
  some (.s (.int .i64 n2), μ) := by kernel_rfl

/-! ### (*overdub/bits.Writer).Bytes -/
noncomputable def G16 : FuncId → FunA := fun _ _ _ => none
def A16 : Ann := .two (.leaf) (.two (.leaf) (.leaf))
def R16 : Slots := [(2, .s)]
noncomputable def bits_Writer_Bytes : FunA := denF Try.prog G16 Try.f16 A16 R16
theorem bits_Writer_Bytes_eq (p0 q0 o0 : Nat) (μ : AMem) : bits_Writer_Bytes [.s (.ptr p0 q0 o0)] μ =
  ((μ.bump 6).cell p0 q0 (o0 + 0)).bind fun x1 =>
  appendA 5 1 1 (μ.next + 4) (μ.bump 6) (.s .nilSlice) (.s x1) fun x2 m3 =>
  asS x2 fun x4 =>
  some (.s x4, m3) := by kernel_rfl

/-! ### (overdub/overdubref01.Bits).Bytes -/
noncomputable def G18 : FuncId → FunA := fun _ _ _ => none
def A18 : Ann := .two (.leaf) (.two (.leaf) (.two (.two (.leaf) (.join [(3, .s)] [] [] (.loop [(12, .i .i64)] [0, 3, 11] [0] (.two (.leaf) (.two (.two (.leaf) (.leaf)) (.two (.join [(0, .s), (3, .s), (11, .i .i64), (12, .i .i64)] [] [] (.two (.leaf) (.ord [0, 1, 2, 3, 4, 5, 6, 7, 8, 9, 10, 11, 12, 13, 14, 15, 16])) .leaf) (.leaf))))) .leaf)) (.two (.leaf) (.leaf))))
def R18 : Slots := [(2, .s)]
noncomputable def overdubref01_Bits_Bytes : FunA := denF Try.prog G18 Try.f18 A18 R18
noncomputable def overdubref01_Bits_Bytes_L1_B (os vs : List AV) (μ : AMem) : Option Res := joinK [(12, .i .i64)] vs (envO [0, 3, 11] os) fun e => den Try.prog G18 Try.f18.ntmps (cL (cL (cR (cL (cR (cR (bodyOf Try.f18))))))) (aL (aL (aR (aL (aR (aR A18)))))) { ret := R18, exits := [(0, [(3, .s)])] } Res e μ fun ex e μ => some (ex, valsOf (Lv.at { ret := R18, exits := [(0, [(3, .s)])] } [(12, .i .i64)] ex) e, μ)
noncomputable def overdubref01_Bits_Bytes_L1 (os vs : List AV) (μ : AMem) : Option Res := loopA (overdubref01_Bits_Bytes_L1_B os) vs μ
theorem overdubref01_Bits_Bytes_L1_B_eq (s0 : SV) (s3 : SV) (s11 : Int) (s12 : Int) (μ : AMem) : overdubref01_Bits_Bytes_L1_B [.s s0, .s s3, .s (.int .i64 s11)] [.s (.int .i64 s12)] μ =
  bif decide (s12 < s11) then
  (indS 1 (.s s3) (IntKind.wrap .i64 (Int.tdiv s12 8)) fun p14 =>
    loadAt μ p14 fun v15 =>
    asI .u8 v15 fun n16 =>
    indS 1 (.s s0) s12 fun p17 =>
    loadAt μ p17 fun v18 =>
    asI .u8 v18 fun n19 =>
    if (IntKind.wrap .u64 (IntKind.wrap .i64 (7 - (Int.tmod s12 8)))) < 0 then none else
    (indS 1 (.s s3) (IntKind.wrap .i64 (Int.tdiv s12 8)) fun p20 =>
      storeAt 1 μ p20 (.s (.int .u8 (IntKind.wrap .u8 (BitVec.toNat ((BitVec.ofInt (IntKind.bits .u8) n16) ||| (BitVec.ofInt (IntKind.bits .u8) (IntKind.wrap .u8 (n19 * 2 ^ (min (Int.toNat (IntKind.wrap .u64 (IntKind.wrap .i64 (7 - (Int.tmod s12 8))))) (IntKind.bits .u8)))))))))) fun m21 =>
      some (.normal, [.s (.int .i64 (IntKind.wrap .i64 (s12 + 1)))], m21)))
  else
  (some (.exit 0, [.s s3], μ)) := by kernel_rfl
theorem overdubref01_Bits_Bytes_L1_eq (os vs : List AV) (μ : AMem) : overdubref01_Bits_Bytes_L1 os vs μ = (overdubref01_Bits_Bytes_L1_B os vs μ).bind fun r => match r.1 with | .normal => overdubref01_Bits_Bytes_L1 os r.2.1 r.2.2 | _ => some r := loopA_eq _ _ _
theorem overdubref01_Bits_Bytes_eq (p0 : SV) (μ : AMem) : overdubref01_Bits_Bytes [.s p0] μ =
  (lenS (.s p0)).bind fun l1 =>
  if 0 ≤ (IntKind.wrap .i64 (Int.tdiv (IntKind.wrap .i64 (((l1 : Nat) : Int) + 7)) 8)) ∧ (IntKind.wrap .i64 (Int.tdiv (IntKind.wrap .i64 (((l1 : Nat) : Int) + 7)) 8)) ≤ (IntKind.wrap .i64 (Int.tdiv (IntKind.wrap .i64 (((l1 : Nat) : Int) + 7)) 8)) ∧ (IntKind.wrap .i64 (Int.tdiv (IntKind.wrap .i64 (((l1 : Nat) : Int) + 7)) 8)) ≤ 9223372036854775807 ∧ (1 : Nat) * (IntKind.wrap .i64 (Int.tdiv (IntKind.wrap .i64 (((l1 : Nat) : Int) + 7)) 8)) ≤ 140737488355328 then
  ((lenS (.s p0)).bind fun l2 =>
    seqJ (overdubref01_Bits_Bytes_L1 [.s p0, .s (.slice (μ.next + 4) 0 0 (Int.toNat (IntKind.wrap .i64 (Int.tdiv (IntKind.wrap .i64 (((l1 : Nat) : Int) + 7)) 8)))), .s (.int .i64 ((l2 : Nat) : Int))] [.s (.int .i64 0)] ((μ.bump 6).set (μ.next + 4) (rowObj (zerosA [.int .u8 0] (Int.toNat (IntKind.wrap .i64 (Int.tdiv (IntKind.wrap .i64 (((l1 : Nat) : Int) + 7)) 8)))) 1 5 (some (Int.toNat (IntKind.wrap .i64 (Int.tdiv (IntKind.wrap .i64 (((l1 : Nat) : Int) + 7)) 8)))))))
    (fun _ _ => none)
    (fun vs3 m4 =>
      headK vs3 fun a8 r9 =>
      asS a8 fun x10 =>
      some (.s x10, m4))
    (fun d7 vs5 m6 =>
      bif Nat.beq 0 d7 then (headK vs5 fun a11 r12 =>
        asS a11 fun x13 =>
        some (.s x13, m6)) else (none))) else none := by kernel_rfl

/-! ### overdub/overdubkeep.Same[byte] -/
noncomputable def G17 : FuncId → FunA := fun _ _ _ => none
def A17 : Ann := .two (.leaf) (.two (.two (.leaf) (.two (.two (.leaf) (.leaf)) (.leaf))) (.two (.two (.leaf) (.join [] [] [] (.loop [(5, .i .i64)] [0, 1] [0] (.two (.two (.leaf) (.two (.leaf) (.leaf))) (.two (.join [(0, .s), (1, .s), (5, .i .i64)] [] [] (.two (.ord [0, 1, 2, 3, 4, 5, 6, 7, 8]) (.two (.two (.leaf) (.leaf)) (.leaf))) .leaf) (.leaf)))) .leaf)) (.two (.leaf) (.leaf))))
def R17 : Slots := [(4, .b)]
noncomputable def overdubkeep_Same_byte : FunA := denF Try.prog G17 Try.f17 A17 R17
noncomputable def overdubkeep_Same_byte_L1_B (os vs : List AV) (μ : AMem) : Option Res := joinK [(5, .i .i64)] vs (envO [0, 1] os) fun e => den Try.prog G17 Try.f17.ntmps (cL (cL (cR (cL (cR (cR (bodyOf Try.f17))))))) (aL (aL (aR (aL (aR (aR A17)))))) { ret := R17, exits := [(0, [])] } Res e μ fun ex e μ => some (ex, valsOf (Lv.at { ret := R17, exits := [(0, [])] } [(5, .i .i64)] ex) e, μ)
noncomputable def overdubkeep_Same_byte_L1 (os vs : List AV) (μ : AMem) : Option Res := loopA (overdubkeep_Same_byte_L1_B os) vs μ
theorem overdubkeep_Same_byte_L1_B_eq (s0 : SV) (s1 : SV) (s5 : Int) (μ : AMem) : overdubkeep_Same_byte_L1_B [.s s0, .s s1] [.s (.int .i64 s5)] μ =
  (lenS (.s s0)).bind fun l11 =>
  bif decide (s5 < ((l11 : Nat) : Int)) then
  (indS 1 (.s s0) s5 fun p12 =>
    loadAt μ p12 fun v13 =>
    asI .u8 v13 fun n14 =>
    indS 1 (.s s1) s5 fun p15 =>
    loadAt μ p15 fun v16 =>
    asI .u8 v16 fun n17 =>
    bif (n14 != n17) then
    (some (.ret, [.s (.bool false)], μ))
    else
    (some (.normal, [.s (.int .i64 (IntKind.wrap .i64 (s5 + 1)))], μ)))
  else
  (some (.exit 0, [], μ)) := by kernel_rfl
theorem overdubkeep_Same_byte_L1_eq (os vs : List AV) (μ : AMem) : overdubkeep_Same_byte_L1 os vs μ = (overdubkeep_Same_byte_L1_B os vs μ).bind fun r => match r.1 with | .normal => overdubkeep_Same_byte_L1 os r.2.1 r.2.2 | _ => some r := loopA_eq _ _ _
theorem overdubkeep_Same_byte_eq (p0 : SV) (p1 : SV) (μ : AMem) : overdubkeep_Same_byte [.s p0, .s p1] μ =
  (lenS (.s p0)).bind fun l1 =>
  (lenS (.s p1)).bind fun l2 =>
  bif (((l1 : Nat) : Int) != ((l2 : Nat) : Int)) then
  (some (.s (.bool false), μ))
  else
  (seqJ (overdubkeep_Same_byte_L1 [.s p0, .s p1] [.s (.int .i64 0)] μ)
    (fun _ _ => none)
    (fun vs3 m4 =>
      headK vs3 fun a8 r9 =>
      asB a8 fun b10 =>
      some (.s (.bool b10), m4))
    (fun d7 vs5 m6 =>
      bif Nat.beq 0 d7 then (some (.s (.bool true), m6)) else (none))) := by kernel_rfl

/-! ### overdub/overdubkeep.Spoil -/
noncomputable def G19 : FuncId → FunA := fun _ _ _ => none
def A19 : Ann := .two (.wide) (.two (.wide) (.join [] [] [] (.loop [(10, .i .i64)] [2, 9] [0] (.two (.wide) (.two (.two (.leaf) (.leaf)) (.two (.join [(2, .s), (9, .i .i64), (10, .i .i64)] [] [] (.two (.wide) (.wide)) .leaf) (.wide))))) .leaf))
def R19 : Slots := []
noncomputable def overdubkeep_Spoil_D : FunA := denF Try.prog G19 Try.f19 A19 R19
noncomputable def overdubkeep_Spoil : FunA := roomF 5 (.int .u8 0) overdubkeep_Spoil_D
noncomputable def overdubkeep_Spoil_L1_B (os vs : List AV) (μ : AMem) : Option Res := joinK [(10, .i .i64)] vs (envO [2, 9] os) fun e => den Try.prog G19 Try.f19.ntmps (cL (cL (cR (cR (bodyOf Try.f19))))) (aL (aL (aR (aR A19)))) { ret := R19, exits := [(0, [])] } Res e μ fun ex e μ => some (ex, valsOf (Lv.at { ret := R19, exits := [(0, [])] } [(10, .i .i64)] ex) e, μ)
noncomputable def overdubkeep_Spoil_L1 (os vs : List AV) (μ : AMem) : Option Res := loopA (overdubkeep_Spoil_L1_B os) vs μ
theorem overdubkeep_Spoil_L1_B_eq (s2 : SV) (s9 : Int) (s10 : Int) (μ : AMem) : overdubkeep_Spoil_L1_B [.s s2, .s (.int .i64 s9)] [.s (.int .i64 s10)] μ =
  bif decide (s10 < s9) then
  (indS 1 (.s s2) s10 fun p10 =>
    loadAt μ p10 fun v11 =>
    asI .u8 v11 fun n12 =>
    indS 1 (.s s2) s10 fun p13 =>
    storeAt 1 μ p13 (.s (.int .u8 (IntKind.wrap .u8 (BitVec.toNat ((BitVec.ofInt (IntKind.bits .u8) n12) ^^^ (BitVec.ofInt (IntKind.bits .u8) 119)))))) fun m14 =>
    some (.normal, [.s (.int .i64 (IntKind.wrap .i64 (s10 + 1)))], m14))
  else
  (some (.exit 0, [], μ)) := by kernel_rfl
theorem overdubkeep_Spoil_L1_eq (os vs : List AV) (μ : AMem) : overdubkeep_Spoil_L1 os vs μ = (overdubkeep_Spoil_L1_B os vs μ).bind fun r => match r.1 with | .normal => overdubkeep_Spoil_L1 os r.2.1 r.2.2 | _ => some r := loopA_eq _ _ _
theorem overdubkeep_Spoil_D_eq (p0 : SV) (μ : AMem) : overdubkeep_Spoil_D [.s p0] μ =
  capA μ (.s p0) fun n1 =>
  asI .i64 n1 fun n2 =>
  cutM 1 μ (.s p0) 0 n2 fun x3 =>
  (lenS x3).bind fun l4 =>
  seqJ (overdubkeep_Spoil_L1 [x3, .s (.int .i64 ((l4 : Nat) : Int))] [.s (.int .i64 0)] μ)
  (fun _ _ => none)
  (fun vs5 m6 =>
    some (.tuple [], m6))
  (fun d9 vs7 m8 =>
    bif Nat.beq 0 d9 then (some (.tuple [], m8)) else (none)) := by kernel_rfl

/-! ### overdub/overdublaw01.wakes -/
noncomputable def G20 : FuncId → FunA := fun g => bif Nat.beq g 9 then bits_NewWriter else bif Nat.beq g 14 then bits_Writer_Put else bif Nat.beq g 15 then bits_Writer_Len else bif Nat.beq g 16 then bits_Writer_Bytes else bif Nat.beq g 17 then overdubkeep_Same_byte else fun _ _ => none
theorem G20_9 : G20 9 = bits_NewWriter := by kernel_rfl
theorem G20_14 : G20 14 = bits_Writer_Put := by kernel_rfl
theorem G20_15 : G20 15 = bits_Writer_Len := by kernel_rfl
theorem G20_16 : G20 16 = bits_Writer_Bytes := by kernel_rfl
theorem G20_17 : G20 17 = overdubkeep_Same_byte := by kernel_rfl
def A20 : Ann := .two (.leaf) (.two (.leaf) (.two (.leaf) (.leaf)))
def R20 : Slots := [(0, .b)]
noncomputable def overdublaw01_wakes : FunA := denF Try.prog G20 Try.f20 A20 R20
theorem overdublaw01_wakes_eq  (μ : AMem) : overdublaw01_wakes [] μ =
  (bits_NewWriter [] μ).bind fun r1 =>
  asS r1.1 fun x2 =>
  (isNil (.s x2)).bind fun b3 =>
  bif (!b3) then
  ((bits_Writer_Put [.s x2, .s (.int .i64 5), .s (.int .i64 4)] (r1.2.bump 18)).bind fun r4 =>
    asB r4.1 fun b5 =>
    bif b5 then
    ((bits_Writer_Len [.s x2] r4.2).bind fun r6 =>
      asI .i64 r6.1 fun n7 =>
      bif (n7 == 4) then
      ((bits_Writer_Bytes [.s x2] r6.2).bind fun r8 =>
        asS r8.1 fun x9 =>
        (overdubkeep_Same_byte [.s x9, .s (.slice (r1.2.next + 14) 0 0 1)] (r8.2.set (r1.2.next + 14) (rowObj [.int .u8 80] 1 5 (some 1)))).bind fun r10 =>
        asB r10.1 fun b11 =>
        some (.s (.bool b11), r10.2))
      else
      (some (.s (.bool false), r6.2)))
    else
    (some (.s (.bool false), r4.2)))
  else
  (some (.s (.bool false), (r1.2.bump 18))) := by rw [← G20_9, ← G20_14, ← G20_15, ← G20_16, ← G20_17]; kernel_rfl

/-! ### overdub/overdublaw01.BitsWrites -/
noncomputable def G3 : FuncId → FunA := fun g => bif Nat.beq g 9 then bits_NewWriter else bif Nat.beq g 10 then overdubkeep_Within else bif Nat.beq g 11 then overdubref01_Bits_Ones else bif Nat.beq g 12 then bits_Writer_Ones else bif Nat.beq g 13 then overdubref01_Bits_Put else bif Nat.beq g 14 then bits_Writer_Put else bif Nat.beq g 15 then bits_Writer_Len else bif Nat.beq g 16 then bits_Writer_Bytes else bif Nat.beq g 18 then overdubref01_Bits_Bytes else bif Nat.beq g 17 then overdubkeep_Same_byte else bif Nat.beq g 19 then overdubkeep_Spoil else bif Nat.beq g 20 then overdublaw01_wakes else fun _ _ => none
theorem G3_9 : G3 9 = bits_NewWriter := by kernel_rfl
theorem G3_10 : G3 10 = overdubkeep_Within := by kernel_rfl
theorem G3_11 : G3 11 = overdubref01_Bits_Ones := by kernel_rfl
theorem G3_12 : G3 12 = bits_Writer_Ones := by kernel_rfl
theorem G3_13 : G3 13 = overdubref01_Bits_Put := by kernel_rfl
theorem G3_14 : G3 14 = bits_Writer_Put := by kernel_rfl
theorem G3_15 : G3 15 = bits_Writer_Len := by kernel_rfl
theorem G3_16 : G3 16 = bits_Writer_Bytes := by kernel_rfl
theorem G3_18 : G3 18 = overdubref01_Bits_Bytes := by kernel_rfl
theorem G3_17 : G3 17 = overdubkeep_Same_byte := by kernel_rfl
theorem G3_19 : G3 19 = overdubkeep_Spoil := by kernel_rfl
theorem G3_20 : G3 20 = overdublaw01_wakes := by kernel_rfl
def A3 : Ann := .two (.leaf) (.two (.leaf) (.two (.two (.leaf) (.two (.two (.leaf) (.leaf)) (.leaf))) (.two (.leaf) (.two (.two (.leaf) (.join [(3, .s), (4, .s)] [] [] (.loop [(4, .s), (5, .i .i64)] [0, 3] [0] (.two (.join [(21, .b)] [0, 3, 4, 5] [] (.leaf) (.two (.leaf) (.leaf))) (.two (.join [(0, .s), (3, .s), (4, .s), (5, .i .i64)] [] [] (.two (.leaf) (.two (.leaf) (.join [(7, .i .i64)] [0, 3, 4, 5, 6] [] (.join [(35, .b)] [0, 3, 4, 5, 6, 7] [] (.leaf) (.two (.leaf) (.leaf))) (.two (.leaf) (.join [(4, .s)] [0, 3, 5] [] (.two (.leaf) (.two (.two (.leaf) (.two (.leaf) (.two (.two (.leaf) (.leaf)) (.leaf)))) (.two (.leaf) (.two (.leaf) (.two (.two (.leaf) (.leaf)) (.leaf)))))) (.two (.leaf) (.two (.two (.leaf) (.leaf)) (.leaf)))))))) .leaf) (.leaf)))) .leaf)) (.two (.leaf) (.two (.leaf) (.two (.leaf) (.two (.leaf) (.leaf)))))))))
def R3 : Slots := [(2, .b)]
noncomputable def overdublaw01_BitsWrites : FunA := denF Try.prog G3 Try.f3 A3 R3
noncomputable def overdublaw01_BitsWrites_L1_B (os vs : List AV) (μ : AMem) : Option Res := joinK [(4, .s), (5, .i .i64)] vs (envO [0, 3] os) fun e => den Try.prog G3 Try.f3.ntmps (cL (cL (cR (cL (cR (cR (cR (cR (bodyOf Try.f3))))))))) (aL (aL (aR (aL (aR (aR (aR (aR A3)))))))) { ret := R3, exits := [(0, [(3, .s), (4, .s)])] } Res e μ fun ex e μ => some (ex, valsOf (Lv.at { ret := R3, exits := [(0, [(3, .s), (4, .s)])] } [(4, .s), (5, .i .i64)] ex) e, μ)
noncomputable def overdublaw01_BitsWrites_L1 (os vs : List AV) (μ : AMem) : Option Res := loopA (overdublaw01_BitsWrites_L1_B os) vs μ
theorem overdublaw01_BitsWrites_L1_B_eq (s0 : SV) (s3 : SV) (s4 : SV) (s5 : Int) (μ : AMem) : overdublaw01_BitsWrites_L1_B [.s s0, .s s3] [.s s4, .s (.int .i64 s5)] μ =
  seqJ
  ((lenS (.s s0)).bind fun l33 =>
    bif decide (s5 < ((l33 : Nat) : Int)) then
    (some (.normal, [.s (.bool (decide (s5 < 30)))], μ))
    else
    (some (.normal, [.s (.bool false)], μ)))
  (fun vs34 m35 =>
    headK vs34 fun a36 r37 =>
    asB a36 fun b38 =>
    bif b38 then
    (indS 3 (.s s0) s5 fun p39 =>
      loadsAt (m35.bump 6) 3 p39 fun v40 =>
      storeAt 3 ((m35.bump 6).set (m35.next + 4) (rowObj [.int .i64 0, .int .i64 0, .int .i64 0] 3 28 (some 1))) (.s (.ptr (m35.next + 4) 0 0)) v40 fun m41 =>
      (m41.cell (m35.next + 4) 0 (0 + 2)).bind fun x42 =>
      asI .i64 (.s x42) fun n43 =>
      seqJ
      (seqJ
        (bif decide (n43 > 70) then
          (some (.normal, [.s (.bool (decide (n43 ≤ 1024)))], m41))
          else
          (some (.normal, [.s (.bool false)], m41)))
        (fun vs44 m45 =>
          headK vs44 fun a46 r47 =>
          asB a46 fun b48 =>
          bif b48 then
          ((overdubkeep_Within [.s (.int .i64 n43), .s (.int .i64 70)] m45).bind fun r49 =>
            asI .i64 r49.1 fun n50 =>
            some (.normal, [.s (.int .i64 n50)], r49.2))
          else
          (some (.normal, [.s (.int .i64 n43)], m45)))
        (fun vs51 m52 =>
          headK vs51 fun a56 r57 =>
          asB a56 fun b58 =>
          some (.ret, [.s (.bool b58)], m52))
        (fun d55 vs53 m54 =>
          none))
      (fun vs59 m60 =>
        headK vs59 fun a61 r62 =>
        asI .i64 a61 fun n63 =>
        seqJ
        ((m60.cell (m35.next + 4) 0 (0 + 0)).bind fun x64 =>
          asI .i64 (.s x64) fun n65 =>
          (overdubkeep_Within [.s (.int .i64 n65), .s (.int .i64 3)] m60).bind fun r66 =>
          asI .i64 r66.1 fun n67 =>
          bif (n67 == 2) then
          ((overdubref01_Bits_Ones [.s s4, .s (.int .i64 n63)] r66.2).bind fun r68 =>
            extrK 0 r68.1 fun t69 =>
            asS t69 fun x70 =>
            extrK 1 r68.1 fun t71 =>
            asB t71 fun b72 =>
            (bits_Writer_Ones [.s s3, .s (.int .i64 n63)] r68.2).bind fun r73 =>
            asB r73.1 fun b74 =>
            bif (!(b74 == b72)) then
            (some (.ret, [.s (.bool false)], r73.2))
            else
            (some (.normal, [.s x70], r73.2)))
          else
          ((r66.2.cell (m35.next + 4) 0 (0 + 1)).bind fun x75 =>
            asI .i64 (.s x75) fun n76 =>
            (overdubref01_Bits_Put [.s s4, .s (.int .i64 n76), .s (.int .i64 n63)] r66.2).bind fun r77 =>
            extrK 0 r77.1 fun t78 =>
            asS t78 fun x79 =>
            extrK 1 r77.1 fun t80 =>
            asB t80 fun b81 =>
            (r77.2.cell (m35.next + 4) 0 (0 + 1)).bind fun x82 =>
            asI .i64 (.s x82) fun n83 =>
            (bits_Writer_Put [.s s3, .s (.int .i64 n83), .s (.int .i64 n63)] r77.2).bind fun r84 =>
            asB r84.1 fun b85 =>
            bif (!(b85 == b81)) then
            (some (.ret, [.s (.bool false)], r84.2))
            else
            (some (.normal, [.s x79], r84.2))))
        (fun vs86 m87 =>
          headK vs86 fun a88 r89 =>
          asS a88 fun x90 =>
          (bits_Writer_Len [.s s3] m87).bind fun r91 =>
          asI .i64 r91.1 fun n92 =>
          (lenS (.s x90)).bind fun l93 =>
          bif (n92 != ((l93 : Nat) : Int)) then
          (some (.ret, [.s (.bool false)], r91.2))
          else
          (some (.normal, [.s x90, .s (.int .i64 (IntKind.wrap .i64 (s5 + 1)))], r91.2)))
        (fun vs94 m95 =>
          headK vs94 fun a99 r100 =>
          asB a99 fun b101 =>
          some (.ret, [.s (.bool b101)], m95))
        (fun d98 vs96 m97 =>
          none))
      (fun vs102 m103 =>
        headK vs102 fun a107 r108 =>
        asB a107 fun b109 =>
        some (.ret, [.s (.bool b109)], m103))
      (fun d106 vs104 m105 =>
        none))
    else
    (some (.exit 0, [.s s3, .s s4], m35)))
  (fun vs110 m111 =>
    headK vs110 fun a115 r116 =>
    asB a115 fun b117 =>
    some (.ret, [.s (.bool b117)], m111))
  (fun d114 vs112 m113 =>
    none) := by rw [← G3_10, ← G3_11, ← G3_12, ← G3_13, ← G3_14, ← G3_15]; kernel_rfl
theorem overdublaw01_BitsWrites_L1_eq (os vs : List AV) (μ : AMem) : overdublaw01_BitsWrites_L1 os vs μ = (overdublaw01_BitsWrites_L1_B os vs μ).bind fun r => match r.1 with | .normal => overdublaw01_BitsWrites_L1 os r.2.1 r.2.2 | _ => some r := loopA_eq _ _ _
theorem overdublaw01_BitsWrites_eq (p0 : SV) (μ : AMem) : overdublaw01_BitsWrites [.s p0] μ =
  (bits_NewWriter [] μ).bind fun r1 =>
  asS r1.1 fun x2 =>
  (isNil (.s x2)).bind fun b3 =>
  bif b3 then
  (some (.s (.bool false), r1.2))
  else
  (seqJ (overdublaw01_BitsWrites_L1 [.s p0, .s x2] [.s .nilSlice, .s (.int .i64 0)] r1.2)
    (fun _ _ => none)
    (fun vs4 m5 =>
      headK vs4 fun a9 r10 =>
      asB a9 fun b11 =>
      some (.s (.bool b11), m5))
    (fun d8 vs6 m7 =>
      bif Nat.beq 0 d8 then (headK vs6 fun a12 r13 =>
        asS a12 fun x14 =>
        headK r13 fun a15 r16 =>
        asS a15 fun x17 =>
        (bits_Writer_Bytes [.s x14] m7).bind fun r18 =>
        asS r18.1 fun x19 =>
        (overdubref01_Bits_Bytes [.s x17] r18.2).bind fun r20 =>
        asS r20.1 fun x21 =>
        (overdubkeep_Same_byte [.s x19, .s x21] r20.2).bind fun r22 =>
        asB r22.1 fun b23 =>
        (overdubkeep_Spoil [.s x19] r22.2).bind fun r24 =>
        bif b23 then
        ((bits_Writer_Bytes [.s x14] r24.2).bind fun r25 =>
          asS r25.1 fun x26 =>
          (overdubref01_Bits_Bytes [.s x17] r25.2).bind fun r27 =>
          asS r27.1 fun x28 =>
          (overdubkeep_Same_byte [.s x26, .s x28] r27.2).bind fun r29 =>
          asB r29.1 fun b30 =>
          bif b30 then
          ((overdublaw01_wakes [] r29.2).bind fun r31 =>
            asB r31.1 fun b32 =>
            some (.s (.bool b32), r31.2))
          else
          (some (.s (.bool false), r29.2)))
        else
        (some (.s (.bool false), r24.2))) else (none))) := by rw [← G3_9, ← G3_16, ← G3_18, ← G3_17, ← G3_19, ← G3_20]; kernel_rfl

/-! ### overdub/bits.NewReader -/
noncomputable def G21 : FuncId → FunA := fun _ _ _ => none
def A21 : Ann := .two (.leaf) (.two (.leaf) (.leaf))
def R21 : Slots := [(2, .s)]
noncomputable def bits_NewReader : FunA := denF Try.prog G21 Try.f21 A21 R21
theorem bits_NewReader_eq (p0 : SV) (μ : AMem) : bits_NewReader [.s p0] μ =
  appendA 5 1 1 (μ.next + 1) (μ.bump 5) (.s .nilSlice) (.s p0) fun x1 m2 =>
  asS x1 fun x3 =>
  some (.s (.ptr (μ.next + 3) 0 0), (m2.set (μ.next + 3) (rowObj [x3, .int .i64 0] 2 58 (some 1)))) := by kernel_rfl

/-! ### (*overdub/bits.Reader).Left -/
noncomputable def G24 : FuncId → FunA := fun _ _ _ => none
def A24 : Ann := .two (.leaf) (.two (.ord [0, 1, 2, 3, 4, 5, 6, 7, 8, 9, 10, 11]) (.leaf))
def R24 : Slots := [(2, .i .i64)]
noncomputable def bits_Reader_Left : FunA := denF Try.prog G24 Try.f24 A24 R24
theorem bits_Reader_Left_eq (p0 q0 o0 : Nat) (μ : AMem) : bits_Reader_Left [.s (.ptr p0 q0 o0)] μ =
  (μ.cell p0 q0 (o0 + 0)).bind fun x1 =>
  (lenS (.s x1)).bind fun l2 =>
  (μ.cell p0 q0 (o0 + 1)).bind fun x3 =>
  asI .i64 (.s x3) fun n4 =>
  some (.s (.int .i64 (IntKind.wrap .i64 ((IntKind.wrap .i64 (8 * ((l2 : Nat) : Int))) - n4))), μ) := by kernel_rfl

/-! ### (*overdub/bits.Reader).digit -/
noncomputable def G34 : FuncId → FunA := fun _ _ _ => none
def A34 : Ann := .two (.leaf) (.two (.leaf) (.two (.leaf) (.leaf)))
def R34 : Slots := [(4, .i .i64)]
noncomputable def bits_Reader_digit : FunA := denF Try.prog G34 Try.f34 A34 R34
theorem bits_Reader_digit_eq (p0 q0 o0 : Nat) (p1 : Int) (μ : AMem) : bits_Reader_digit [.s (.ptr p0 q0 o0), .s (.int .i64 p1)] μ =
  (μ.cell p0 q0 (o0 + 1)).bind fun x1 =>
  asI .i64 (.s x1) fun n2 =>
  (μ.cell p0 q0 (o0 + 0)).bind fun x3 =>
  indS 1 (.s x3) (IntKind.wrap .i64 (Int.tdiv (IntKind.wrap .i64 (n2 + p1)) 8)) fun p4 =>
  loadAt μ p4 fun v5 =>
  asI .u8 v5 fun n6 =>
  if (IntKind.wrap .i64 (7 - (Int.tmod (IntKind.wrap .i64 (n2 + p1)) 8))) < 0 then none else
  (some (.s (.int .i64 (IntKind.wrap .i64 (BitVec.toNat ((BitVec.ofInt (IntKind.bits .i64) (Int.fdiv (IntKind.wrap .i64 n6) (2 ^ (min (Int.toNat (IntKind.wrap .i64 (7 - (Int.tmod (IntKind.wrap .i64 (n2 + p1)) 8)))) (IntKind.bits .i64))))) &&& (BitVec.ofInt (IntKind.bits .i64) 1))))), μ)) := by kernel_rfl

/-! ### (*overdub/bits.Reader).Get -/
noncomputable def G22 : FuncId → FunA := fun g => bif Nat.beq g 24 then bits_Reader_Left else bif Nat.beq g 34 then bits_Reader_digit else fun _ _ => none
theorem G22_24 : G22 24 = bits_Reader_Left := by kernel_rfl
theorem G22_34 : G22 34 = bits_Reader_digit := by kernel_rfl
def A22 : Ann := .two (.leaf) (.two (.join [(19, .b)] [0, 1] [] (.leaf) (.two (.two (.leaf) (.leaf)) (.leaf))) (.two (.leaf) (.two (.two (.leaf) (.join [(0, .s), (1, .i .i64), (6, .i .i64)] [] [] (.loop [(6, .i .i64), (21, .i .i64)] [0, 1, 20] [0] (.two (.leaf) (.two (.two (.leaf) (.leaf)) (.two (.join [(0, .s), (1, .i .i64), (6, .i .i64), (20, .i .i64), (21, .i .i64)] [] [] (.two (.leaf) (.leaf)) .leaf) (.leaf))))) .leaf)) (.two (.leaf) (.two (.leaf) (.leaf))))))
def R22 : Slots := [(4, .i .i64), (5, .b)]
noncomputable def bits_Reader_Get : FunA := denF Try.prog G22 Try.f22 A22 R22
noncomputable def bits_Reader_Get_L1_B (os vs : List AV) (μ : AMem) : Option Res := joinK [(6, .i .i64), (21, .i .i64)] vs (envO [0, 1, 20] os) fun e => den Try.prog G22 Try.f22.ntmps (cL (cL (cR (cL (cR (cR (cR (bodyOf Try.f22)))))))) (aL (aL (aR (aL (aR (aR (aR A22))))))) { ret := R22, exits := [(0, [(0, .s), (1, .i .i64), (6, .i .i64)])] } Res e μ fun ex e μ => some (ex, valsOf (Lv.at { ret := R22, exits := [(0, [(0, .s), (1, .i .i64), (6, .i .i64)])] } [(6, .i .i64), (21, .i .i64)] ex) e, μ)
noncomputable def bits_Reader_Get_L1 (os vs : List AV) (μ : AMem) : Option Res := loopA (bits_Reader_Get_L1_B os) vs μ
theorem bits_Reader_Get_L1_B_eq (s0 t0 u0 : Nat) (s1 : Int) (s20 : Int) (s6 : Int) (s21 : Int) (μ : AMem) : bits_Reader_Get_L1_B [.s (.ptr s0 t0 u0), .s (.int .i64 s1), .s (.int .i64 s20)] [.s (.int .i64 s6), .s (.int .i64 s21)] μ =
  bif decide (s21 < s20) then
  ((bits_Reader_digit [.s (.ptr s0 t0 u0), .s (.int .i64 s21)] μ).bind fun r44 =>
    asI .i64 r44.1 fun n45 =>
    some (.normal, [.s (.int .i64 (IntKind.wrap .i64 (BitVec.toNat ((BitVec.ofInt (IntKind.bits .i64) (IntKind.wrap .i64 (s6 * 2 ^ (1 : Nat)))) ||| (BitVec.ofInt (IntKind.bits .i64) n45))))), .s (.int .i64 (IntKind.wrap .i64 (s21 + 1)))], r44.2))
  else
  (some (.exit 0, [.s (.ptr s0 t0 u0), .s (.int .i64 s1), .s (.int .i64 s6)], μ)) := by rw [← G22_34]; kernel_rfl
theorem bits_Reader_Get_L1_eq (os vs : List AV) (μ : AMem) : bits_Reader_Get_L1 os vs μ = (bits_Reader_Get_L1_B os vs μ).bind fun r => match r.1 with | .normal => bits_Reader_Get_L1 os r.2.1 r.2.2 | _ => some r := loopA_eq _ _ _
theorem bits_Reader_Get_eq (p0 q0 o0 : Nat) (p1 : Int) (μ : AMem) : bits_Reader_Get [.s (.ptr p0 q0 o0), .s (.int .i64 p1)] μ =
  seqJ
  (bif !(decide (p1 < 0)) then
    (bif !(decide (p1 > 62)) then
      ((bits_Reader_Left [.s (.ptr p0 q0 o0)] μ).bind fun r1 =>
        asI .i64 r1.1 fun n2 =>
        some (.normal, [.s (.bool (decide (p1 > n2)))], r1.2))
      else
      (some (.normal, [.s (.bool true)], μ)))
    else
    (some (.normal, [.s (.bool true)], μ)))
  (fun vs3 m4 =>
    headK vs3 fun a5 r6 =>
    asB a5 fun b7 =>
    bif b7 then
    (some (.tuple [.s (.int .i64 0), .s (.bool false)], m4))
    else
    (seqJ (bits_Reader_Get_L1 [.s (.ptr p0 q0 o0), .s (.int .i64 p1), .s (.int .i64 p1)] [.s (.int .i64 0), .s (.int .i64 0)] m4)
      (fun _ _ => none)
      (fun vs8 m9 =>
        headK vs8 fun a13 r14 =>
        asI .i64 a13 fun n15 =>
        headK r14 fun a16 r17 =>
        asB a16 fun b18 =>
        some (.tuple [.s (.int .i64 n15), .s (.bool b18)], m9))
      (fun d12 vs10 m11 =>
        bif Nat.beq 0 d12 then (headK vs10 fun a19 r20 =>
          asS a19 fun x21 =>
          headK r20 fun a22 r23 =>
          asI .i64 a22 fun n24 =>
          headK r23 fun a25 r26 =>
          asI .i64 a25 fun n27 =>
          nonNil (.s x21)
          (ptrAdd 1 (.s x21) fun p28 =>
            loadAt m11 p28 fun v29 =>
            asI .i64 v29 fun n30 =>
            nonNil (.s x21)
            (ptrAdd 1 (.s x21) fun p31 =>
              storeAt 1 m11 p31 (.s (.int .i64 (IntKind.wrap .i64 (n30 + n24)))) fun m32 =>
              some (.tuple [.s (.int .i64 n27), .s (.bool true)], m32)))) else (none))))
  (fun vs33 m34 =>
    headK vs33 fun a38 r39 =>
    asI .i64 a38 fun n40 =>
    headK r39 fun a41 r42 =>
    asB a41 fun b43 =>
    some (.tuple [.s (.int .i64 n40), .s (.bool b43)], m34))
  (fun d37 vs35 m36 =>
    none) := by rw [← G22_24]; kernel_rfl

/-! ### overdub/overdublaw01.BitsSplit -/
noncomputable def G4 : FuncId → FunA := fun g => bif Nat.beq g 10 then overdubkeep_Within else bif Nat.beq g 9 then bits_NewWriter else bif Nat.beq g 14 then bits_Writer_Put else bif Nat.beq g 16 then bits_Writer_Bytes else bif Nat.beq g 21 then bits_NewReader else bif Nat.beq g 22 then bits_Reader_Get else bif Nat.beq g 17 then overdubkeep_Same_byte else bif Nat.beq g 20 then overdublaw01_wakes else fun _ _ => none
theorem G4_10 : G4 10 = overdubkeep_Within := by kernel_rfl
theorem G4_9 : G4 9 = bits_NewWriter := by kernel_rfl
theorem G4_14 : G4 14 = bits_Writer_Put := by kernel_rfl
theorem G4_16 : G4 16 = bits_Writer_Bytes := by kernel_rfl
theorem G4_21 : G4 21 = bits_NewReader := by kernel_rfl
theorem G4_22 : G4 22 = bits_Reader_Get := by kernel_rfl
theorem G4_17 : G4 17 = overdubkeep_Same_byte := by kernel_rfl
theorem G4_20 : G4 20 = overdublaw01_wakes := by kernel_rfl
def A4 : Ann := .two (.leaf) (.two (.leaf) (.two (.leaf) (.two (.leaf) (.two (.join [(61, .b)] [0, 1, 2, 7, 8] [] (.leaf) (.two (.two (.leaf) (.leaf)) (.leaf))) (.two (.leaf) (.two (.leaf) (.two (.join [(73, .b)] [0, 1, 2, 7, 8, 9, 10] [] (.leaf) (.two (.two (.leaf) (.leaf)) (.leaf))) (.two (.leaf) (.two (.leaf) (.two (.leaf) (.two (.leaf) (.leaf))))))))))))
def R4 : Slots := [(6, .b)]
noncomputable def overdublaw01_BitsSplit : FunA := denF Try.prog G4 Try.f4 A4 R4
theorem overdublaw01_BitsSplit_eq (p0 : Int) (p1 : Int) (p2 : Int) (μ : AMem) : overdublaw01_BitsSplit [.s (.int .i64 p0), .s (.int .i64 p1), .s (.int .i64 p2)] μ =
  (overdubkeep_Within [.s (.int .i64 p1), .s (.int .i64 31)] μ).bind fun r1 =>
  asI .i64 r1.1 fun n2 =>
  (overdubkeep_Within [.s (.int .i64 p2), .s (.int .i64 31)] r1.2).bind fun r3 =>
  asI .i64 r3.1 fun n4 =>
  if (IntKind.wrap .u64 (IntKind.wrap .i64 (n2 + n4))) < 0 then none else
  ((overdubkeep_Within [.s (.int .i64 p0), .s (.int .i64 (IntKind.wrap .i64 (1 * 2 ^ (min (Int.toNat (IntKind.wrap .u64 (IntKind.wrap .i64 (n2 + n4)))) (IntKind.bits .i64)))))] r3.2).bind fun r5 =>
    asI .i64 r5.1 fun n6 =>
    (bits_NewWriter [] r5.2).bind fun r7 =>
    asS r7.1 fun x8 =>
    (bits_NewWriter [] r7.2).bind fun r9 =>
    asS r9.1 fun x10 =>
    seqJ
    ((isNil (.s x8)).bind fun b11 =>
      bif !b11 then
      ((isNil (.s x10)).bind fun b12 =>
        bif !b12 then
        ((bits_Writer_Put [.s x8, .s (.int .i64 n6), .s (.int .i64 (IntKind.wrap .i64 (n2 + n4)))] r9.2).bind fun r13 =>
          asB r13.1 fun b14 =>
          bif !(!b14) then
          (if (IntKind.wrap .u64 n4) < 0 then none else
            ((bits_Writer_Put [.s x10, .s (.int .i64 (Int.fdiv n6 (2 ^ (min (Int.toNat (IntKind.wrap .u64 n4)) (IntKind.bits .i64))))), .s (.int .i64 n2)] r13.2).bind fun r15 =>
              asB r15.1 fun b16 =>
              bif !(!b16) then
              ((bits_Writer_Put [.s x10, .s (.int .i64 n6), .s (.int .i64 n4)] r15.2).bind fun r17 =>
                asB r17.1 fun b18 =>
                some (.normal, [.s (.bool (!b18))], r17.2))
              else
              (some (.normal, [.s (.bool true)], r15.2))))
          else
          (some (.normal, [.s (.bool true)], r13.2)))
        else
        (some (.normal, [.s (.bool true)], r9.2)))
      else
      (some (.normal, [.s (.bool true)], r9.2)))
    (fun vs19 m20 =>
      headK vs19 fun a21 r22 =>
      asB a21 fun b23 =>
      bif b23 then
      (some (.s (.bool false), m20))
      else
      ((bits_Writer_Bytes [.s x8] m20).bind fun r24 =>
        asS r24.1 fun x25 =>
        (bits_NewReader [.s x25] r24.2).bind fun r26 =>
        asS r26.1 fun x27 =>
        (bits_Writer_Bytes [.s x8] r26.2).bind fun r28 =>
        asS r28.1 fun x29 =>
        (bits_NewReader [.s x29] r28.2).bind fun r30 =>
        asS r30.1 fun x31 =>
        seqJ
        ((isNil (.s x27)).bind fun b32 =>
          bif !b32 then
          ((isNil (.s x31)).bind fun b33 =>
            some (.normal, [.s (.bool b33)], r30.2))
          else
          (some (.normal, [.s (.bool true)], r30.2)))
        (fun vs34 m35 =>
          headK vs34 fun a36 r37 =>
          asB a36 fun b38 =>
          bif b38 then
          (some (.s (.bool false), m35))
          else
          ((bits_Reader_Get [.s x27, .s (.int .i64 n2)] m35).bind fun r39 =>
            extrK 0 r39.1 fun t40 =>
            asI .i64 t40 fun n41 =>
            extrK 1 r39.1 fun t42 =>
            asB t42 fun b43 =>
            (bits_Reader_Get [.s x27, .s (.int .i64 n4)] r39.2).bind fun r44 =>
            extrK 0 r44.1 fun t45 =>
            asI .i64 t45 fun n46 =>
            extrK 1 r44.1 fun t47 =>
            asB t47 fun b48 =>
            (bits_Reader_Get [.s x31, .s (.int .i64 (IntKind.wrap .i64 (n2 + n4)))] r44.2).bind fun r49 =>
            extrK 0 r49.1 fun t50 =>
            asI .i64 t50 fun n51 =>
            extrK 1 r49.1 fun t52 =>
            asB t52 fun b53 =>
            (bits_Writer_Bytes [.s x8] r49.2).bind fun r54 =>
            asS r54.1 fun x55 =>
            (bits_Writer_Bytes [.s x10] r54.2).bind fun r56 =>
            asS r56.1 fun x57 =>
            (overdubkeep_Same_byte [.s x55, .s x57] r56.2).bind fun r58 =>
            asB r58.1 fun b59 =>
            bif b59 then
            (bif b43 then
              (bif b48 then
                (bif b53 then
                  (if (IntKind.wrap .u64 n4) < 0 then none else
                    (bif (n41 == (Int.fdiv n6 (2 ^ (min (Int.toNat (IntKind.wrap .u64 n4)) (IntKind.bits .i64))))) then
                      (if (IntKind.wrap .u64 n4) < 0 then none else
                        (bif (n46 == (IntKind.wrap .i64 (BitVec.toNat ((BitVec.ofInt (IntKind.bits .i64) n6) &&& (BitVec.ofInt (IntKind.bits .i64) (IntKind.wrap .i64 ((IntKind.wrap .i64 (1 * 2 ^ (min (Int.toNat (IntKind.wrap .u64 n4)) (IntKind.bits .i64)))) - 1))))))) then
                          (bif (n51 == n6) then
                            ((overdublaw01_wakes [] r58.2).bind fun r60 =>
                              asB r60.1 fun b61 =>
                              some (.s (.bool b61), r60.2))
                            else
                            (some (.s (.bool false), r58.2)))
                          else
                          (some (.s (.bool false), r58.2))))
                      else
                      (some (.s (.bool false), r58.2))))
                  else
                  (some (.s (.bool false), r58.2)))
                else
                (some (.s (.bool false), r58.2)))
              else
              (some (.s (.bool false), r58.2)))
            else
            (some (.s (.bool false), r58.2))))
        (fun vs62 m63 =>
          headK vs62 fun a67 r68 =>
          asB a67 fun b69 =>
          some (.s (.bool b69), m63))
        (fun d66 vs64 m65 =>
          none)))
    (fun vs70 m71 =>
      headK vs70 fun a75 r76 =>
      asB a75 fun b77 =>
      some (.s (.bool b77), m71))
    (fun d74 vs72 m73 =>
      none)) := by rw [← G4_10, ← G4_9, ← G4_14, ← G4_16, ← G4_21, ← G4_22, ← G4_17, ← G4_20]; kernel_rfl

/-! ### overdub/overdubkeep.Cut[byte] -/
noncomputable def G23 : FuncId → FunA := fun _ _ _ => none
def A23 : Ann := .two (.leaf) (.two (.leaf) (.leaf))
def R23 : Slots := [(4, .s)]
noncomputable def overdubkeep_Cut_byte : FunA := denF Try.prog G23 Try.f23 A23 R23
theorem overdubkeep_Cut_byte_eq (p0 : SV) (p1 : Int) (μ : AMem) : overdubkeep_Cut_byte [.s p0, .s (.int .i64 p1)] μ =
  (lenS (.s p0)).bind fun l1 =>
  cutS 1 (.s p0) 0 (if p1 < ((l1 : Nat) : Int) then p1 else ((l1 : Nat) : Int)) fun x2 =>
  some (x2, μ) := by kernel_rfl

/-! ### overdub/overdublaw01.BitsLimits -/
noncomputable def G5 : FuncId → FunA := fun g => bif Nat.beq g 23 then overdubkeep_Cut_byte else bif Nat.beq g 9 then bits_NewWriter else bif Nat.beq g 21 then bits_NewReader else bif Nat.beq g 14 then bits_Writer_Put else bif Nat.beq g 15 then bits_Writer_Len else bif Nat.beq g 24 then bits_Reader_Left else bif Nat.beq g 22 then bits_Reader_Get else bif Nat.beq g 12 then bits_Writer_Ones else bif Nat.beq g 20 then overdublaw01_wakes else fun _ _ => none
theorem G5_23 : G5 23 = overdubkeep_Cut_byte := by kernel_rfl
theorem G5_9 : G5 9 = bits_NewWriter := by kernel_rfl
theorem G5_21 : G5 21 = bits_NewReader := by kernel_rfl
theorem G5_14 : G5 14 = bits_Writer_Put := by kernel_rfl
theorem G5_15 : G5 15 = bits_Writer_Len := by kernel_rfl
theorem G5_24 : G5 24 = bits_Reader_Left := by kernel_rfl
theorem G5_22 : G5 22 = bits_Reader_Get := by kernel_rfl
theorem G5_12 : G5 12 = bits_Writer_Ones := by kernel_rfl
theorem G5_20 : G5 20 = overdublaw01_wakes := by kernel_rfl
def A5 : Ann := .two (.leaf) (.two (.leaf) (.two (.leaf) (.two (.join [(30, .b)] [0, 1, 2, 7, 8] [] (.leaf) (.two (.two (.leaf) (.leaf)) (.leaf))) (.join [(9, .b)] [0, 1, 2, 7, 8] [] (.leaf) (.two (.join [(61, .b)] [1, 2, 7, 8, 9] [] (.leaf) (.two (.two (.leaf) (.leaf)) (.leaf))) (.two (.leaf) (.two (.leaf) (.two (.join [(94, .b)] [2, 7, 10] [] (.leaf) (.two (.two (.leaf) (.leaf)) (.leaf))) (.two (.leaf) (.two (.leaf) (.leaf)))))))))))
def R5 : Slots := [(6, .b)]
noncomputable def overdublaw01_BitsLimits : FunA := denF Try.prog G5 Try.f5 A5 R5
theorem overdublaw01_BitsLimits_eq (p0 : Int) (p1 : Int) (p2 : SV) (μ : AMem) : overdublaw01_BitsLimits [.s (.int .i64 p0), .s (.int .i64 p1), .s p2] μ =
  (overdubkeep_Cut_byte [.s p2, .s (.int .i64 20)] μ).bind fun r1 =>
  asS r1.1 fun x2 =>
  (bits_NewWriter [] r1.2).bind fun r3 =>
  asS r3.1 fun x4 =>
  (bits_NewReader [.s x2] r3.2).bind fun r5 =>
  asS r5.1 fun x6 =>
  seqJ
  ((isNil (.s x4)).bind fun b7 =>
    bif !b7 then
    ((isNil (.s x6)).bind fun b8 =>
      bif !b8 then
      ((bits_Writer_Put [.s x4, .s (.int .i64 p0), .s (.int .i64 3)] r5.2).bind fun r9 =>
        asB r9.1 fun b10 =>
        some (.normal, [.s (.bool (!b10))], r9.2))
      else
      (some (.normal, [.s (.bool true)], r5.2)))
    else
    (some (.normal, [.s (.bool true)], r5.2)))
  (fun vs11 m12 =>
    headK vs11 fun a13 r14 =>
    asB a13 fun b15 =>
    bif b15 then
    (some (.s (.bool false), m12))
    else
    (seqJ
      (bif !(decide (p1 < 0)) then
        (some (.normal, [.s (.bool (decide (p1 > 62)))], m12))
        else
        (some (.normal, [.s (.bool true)], m12)))
      (fun vs16 m17 =>
        headK vs16 fun a18 r19 =>
        asB a18 fun b20 =>
        seqJ
        ((bits_Writer_Put [.s x4, .s (.int .i64 p0), .s (.int .i64 p1)] m17).bind fun r21 =>
          asB r21.1 fun b22 =>
          bif !(b22 == b20) then
          (bif b20 then
            ((bits_Writer_Len [.s x4] r21.2).bind fun r23 =>
              asI .i64 r23.1 fun n24 =>
              bif !(n24 != 3) then
              (bif (!b20) then
                ((bits_Writer_Len [.s x4] r23.2).bind fun r25 =>
                  asI .i64 r25.1 fun n26 =>
                  some (.normal, [.s (.bool (n26 != (IntKind.wrap .i64 (3 + p1))))], r25.2))
                else
                (some (.normal, [.s (.bool false)], r23.2)))
              else
              (some (.normal, [.s (.bool true)], r23.2)))
            else
            (bif (!b20) then
              ((bits_Writer_Len [.s x4] r21.2).bind fun r27 =>
                asI .i64 r27.1 fun n28 =>
                some (.normal, [.s (.bool (n28 != (IntKind.wrap .i64 (3 + p1))))], r27.2))
              else
              (some (.normal, [.s (.bool false)], r21.2))))
          else
          (some (.normal, [.s (.bool true)], r21.2)))
        (fun vs29 m30 =>
          headK vs29 fun a31 r32 =>
          asB a31 fun b33 =>
          bif b33 then
          (some (.s (.bool false), m30))
          else
          ((bits_Reader_Left [.s x6] m30).bind fun r34 =>
            asI .i64 r34.1 fun n35 =>
            (bits_Reader_Get [.s x6, .s (.int .i64 p1)] r34.2).bind fun r36 =>
            extrK 0 r36.1 fun t37 =>
            asI .i64 t37 fun n38 =>
            extrK 1 r36.1 fun t39 =>
            asB t39 fun b40 =>
            seqJ
            (bif (!b20) then
              ((lenS (.s x2)).bind fun l41 =>
                bif !(!(b40 == (decide (p1 ≤ (IntKind.wrap .i64 (8 * ((l41 : Nat) : Int))))))) then
                (bif (!b40) then
                  (bif !(n38 != 0) then
                    ((bits_Reader_Left [.s x6] r36.2).bind fun r42 =>
                      asI .i64 r42.1 fun n43 =>
                      some (.normal, [.s (.bool (n43 != n35))], r42.2))
                    else
                    (some (.normal, [.s (.bool true)], r36.2)))
                  else
                  (some (.normal, [.s (.bool false)], r36.2)))
                else
                (some (.normal, [.s (.bool true)], r36.2)))
              else
              (bif !(!(b40 == false)) then
                (bif (!b40) then
                  (bif !(n38 != 0) then
                    ((bits_Reader_Left [.s x6] r36.2).bind fun r44 =>
                      asI .i64 r44.1 fun n45 =>
                      some (.normal, [.s (.bool (n45 != n35))], r44.2))
                    else
                    (some (.normal, [.s (.bool true)], r36.2)))
                  else
                  (some (.normal, [.s (.bool false)], r36.2)))
                else
                (some (.normal, [.s (.bool true)], r36.2))))
            (fun vs46 m47 =>
              headK vs46 fun a48 r49 =>
              asB a48 fun b50 =>
              bif b50 then
              (some (.s (.bool false), m47))
              else
              ((bits_Writer_Len [.s x4] m47).bind fun r51 =>
                asI .i64 r51.1 fun n52 =>
                (bits_Writer_Ones [.s x4, .s (.int .i64 (-1))] r51.2).bind fun r53 =>
                asB r53.1 fun b54 =>
                bif (b54 == false) then
                ((bits_Writer_Ones [.s x4, .s (.int .i64 1025)] r53.2).bind fun r55 =>
                  asB r55.1 fun b56 =>
                  bif (b56 == false) then
                  ((bits_Writer_Len [.s x4] r55.2).bind fun r57 =>
                    asI .i64 r57.1 fun n58 =>
                    bif (n58 == n52) then
                    ((lenS (.s x2)).bind fun l59 =>
                      bif (n35 == (IntKind.wrap .i64 (8 * ((l59 : Nat) : Int)))) then
                      ((overdublaw01_wakes [] r57.2).bind fun r60 =>
                        asB r60.1 fun b61 =>
                        some (.s (.bool b61), r60.2))
                      else
                      (some (.s (.bool false), r57.2)))
                    else
                    (some (.s (.bool false), r57.2)))
                  else
                  (some (.s (.bool false), r55.2)))
                else
                (some (.s (.bool false), r53.2))))
            (fun vs62 m63 =>
              headK vs62 fun a67 r68 =>
              asB a67 fun b69 =>
              some (.s (.bool b69), m63))
            (fun d66 vs64 m65 =>
              none)))
        (fun vs70 m71 =>
          headK vs70 fun a75 r76 =>
          asB a75 fun b77 =>
          some (.s (.bool b77), m71))
        (fun d74 vs72 m73 =>
          none))
      (fun vs78 m79 =>
        headK vs78 fun a83 r84 =>
        asB a83 fun b85 =>
        some (.s (.bool b85), m79))
      (fun d82 vs80 m81 =>
        none)))
  (fun vs86 m87 =>
    headK vs86 fun a91 r92 =>
    asB a91 fun b93 =>
    some (.s (.bool b93), m87))
  (fun d90 vs88 m89 =>
    none) := by rw [← G5_23, ← G5_9, ← G5_21, ← G5_14, ← G5_15, ← G5_24, ← G5_22, ← G5_12, ← G5_20]; kernel_rfl

/-! ### overdub/overdubkeep.Lend -/
noncomputable def G25 : FuncId → FunA := fun _ _ _ => none
def A25 : Ann := .two (.wide) (.two (.wide) (.two (.wide) (.two (.wide) (.two (.two (.wide) (.join [(3, .s)] [] [] (.loop [(5, .i .i64)] [3, 4] [0] (.two (.two (.wide) (.two (.leaf) (.leaf))) (.two (.join [(3, .s), (4, .s), (5, .i .i64)] [] [] (.wide) .leaf) (.wide)))) .leaf)) (.two (.wide) (.leaf))))))
def R25 : Slots := [(2, .s)]
noncomputable def overdubkeep_Lend : FunA := denF Try.prog G25 Try.f25 A25 R25
noncomputable def overdubkeep_Lend_L1_B (os vs : List AV) (μ : AMem) : Option Res := joinK [(5, .i .i64)] vs (envO [3, 4] os) fun e => den Try.prog G25 Try.f25.ntmps (cL (cL (cR (cL (cR (cR (cR (cR (bodyOf Try.f25))))))))) (aL (aL (aR (aL (aR (aR (aR (aR A25)))))))) { ret := R25, exits := [(0, [(3, .s)])] } Res e μ fun ex e μ => some (ex, valsOf (Lv.at { ret := R25, exits := [(0, [(3, .s)])] } [(5, .i .i64)] ex) e, μ)
noncomputable def overdubkeep_Lend_L1 (os vs : List AV) (μ : AMem) : Option Res := loopA (overdubkeep_Lend_L1_B os) vs μ
theorem overdubkeep_Lend_L1_B_eq (s3 : SV) (s4 : SV) (s5 : Int) (μ : AMem) : overdubkeep_Lend_L1_B [.s s3, .s s4] [.s (.int .i64 s5)] μ =
  (lenS (.s s4)).bind fun l20 =>
  bif decide (s5 < ((l20 : Nat) : Int)) then
  (indS 1 (.s s4) s5 fun p21 =>
    storeAt 1 μ p21 (.s (.int .u8 85)) fun m22 =>
    some (.normal, [.s (.int .i64 (IntKind.wrap .i64 (s5 + 1)))], m22))
  else
  (some (.exit 0, [.s s3], μ)) := by kernel_rfl
theorem overdubkeep_Lend_L1_eq (os vs : List AV) (μ : AMem) : overdubkeep_Lend_L1 os vs μ = (overdubkeep_Lend_L1_B os vs μ).bind fun r => match r.1 with | .normal => overdubkeep_Lend_L1 os r.2.1 r.2.2 | _ => some r := loopA_eq _ _ _
theorem overdubkeep_Lend_eq (p0 : SV) (μ : AMem) : overdubkeep_Lend [.s p0] μ =
  (lenS (.s p0)).bind fun l1 =>
  (lenS (.s p0)).bind fun l2 =>
  if 0 ≤ ((l1 : Nat) : Int) ∧ ((l1 : Nat) : Int) ≤ (IntKind.wrap .i64 (((l2 : Nat) : Int) + 3)) ∧ (IntKind.wrap .i64 (((l2 : Nat) : Int) + 3)) ≤ 9223372036854775807 ∧ (1 : Nat) * (IntKind.wrap .i64 (((l2 : Nat) : Int) + 3)) ≤ 140737488355328 then
  (copyA 1 ((μ.bump 7).set (μ.next + 5) (rowObj (zerosA [.int .u8 0] (Int.toNat (IntKind.wrap .i64 (((l2 : Nat) : Int) + 3)))) 1 5 (some (Int.toNat (IntKind.wrap .i64 (((l2 : Nat) : Int) + 3)))))) (.s (.slice (μ.next + 5) 0 0 (Int.toNat ((l1 : Nat) : Int)))) (.s p0) fun n3 m4 =>
    asI .i64 n3 fun n5 =>
    (lenS (.s p0)).bind fun l6 =>
    cutM 1 m4 (.s (.slice (μ.next + 5) 0 0 (Int.toNat ((l1 : Nat) : Int)))) 0 (IntKind.wrap .i64 (((l6 : Nat) : Int) + 3)) fun x7 =>
    (lenS (.s p0)).bind fun l8 =>
    seqJ (overdubkeep_Lend_L1 [.s (.slice (μ.next + 5) 0 0 (Int.toNat ((l1 : Nat) : Int))), x7] [.s (.int .i64 ((l8 : Nat) : Int))] m4)
    (fun _ _ => none)
    (fun vs9 m10 =>
      headK vs9 fun a14 r15 =>
      asS a14 fun x16 =>
      some (.s x16, m10))
    (fun d13 vs11 m12 =>
      bif Nat.beq 0 d13 then (headK vs11 fun a17 r18 =>
        asS a17 fun x19 =>
        some (.s x19, m12)) else (none))) else none := by kernel_rfl

/-! ### overdub/overdubref01.Of -/
noncomputable def G26 : FuncId → FunA := fun _ _ _ => none
def A26 : Ann := .two (.leaf) (.two (.leaf) (.two (.two (.leaf) (.join [(3, .s)] [] [] (.loop [(3, .s), (8, .i .i64)] [0, 7] [0] (.two (.leaf) (.two (.two (.leaf) (.leaf)) (.two (.join [(0, .s), (3, .s), (7, .i .i64), (8, .i .i64)] [] [] (.two (.leaf) (.two (.leaf) (.join [(0, .s), (3, .s), (7, .i .i64), (8, .i .i64)] [] [] (.loop [(3, .s), (5, .i .i64)] [0, 4, 7, 8] [2] (.two (.two (.leaf) (.two (.leaf) (.leaf))) (.two (.join [(0, .s), (3, .s), (4, .i .i64), (5, .i .i64), (7, .i .i64), (8, .i .i64)] [] [] (.leaf) .leaf) (.leaf)))) .leaf))) .leaf) (.leaf))))) .leaf)) (.two (.leaf) (.leaf))))
def R26 : Slots := [(2, .s)]
noncomputable def overdubref01_Of : FunA := denF Try.prog G26 Try.f26 A26 R26
noncomputable def overdubref01_Of_L2_B (os vs : List AV) (μ : AMem) : Option Res := joinK [(3, .s), (5, .i .i64)] vs (envO [0, 4, 7, 8] os) fun e => den Try.prog G26 Try.f26.ntmps (cL (cL (cR (cR (cL (cL (cR (cR (cL (cL (cR (cL (cR (cR (bodyOf Try.f26))))))))))))))) (aL (aL (aR (aR (aL (aL (aR (aR (aL (aL (aR (aL (aR (aR A26)))))))))))))) { ret := R26, exits := [(2, [(0, .s), (3, .s), (7, .i .i64), (8, .i .i64)]), (1, [(0, .s), (3, .s), (7, .i .i64), (8, .i .i64)]), (0, [(3, .s)])] } Res e μ fun ex e μ => some (ex, valsOf (Lv.at { ret := R26, exits := [(2, [(0, .s), (3, .s), (7, .i .i64), (8, .i .i64)]), (1, [(0, .s), (3, .s), (7, .i .i64), (8, .i .i64)]), (0, [(3, .s)])] } [(3, .s), (5, .i .i64)] ex) e, μ)
noncomputable def overdubref01_Of_L2 (os vs : List AV) (μ : AMem) : Option Res := loopA (overdubref01_Of_L2_B os) vs μ
noncomputable def overdubref01_Of_L1_B (os vs : List AV) (μ : AMem) : Option Res := joinK [(3, .s), (8, .i .i64)] vs (envO [0, 7] os) fun e => den Try.prog G26 Try.f26.ntmps (cL (cL (cR (cL (cR (cR (bodyOf Try.f26))))))) (aL (aL (aR (aL (aR (aR A26)))))) { ret := R26, exits := [(0, [(3, .s)])] } Res e μ fun ex e μ => some (ex, valsOf (Lv.at { ret := R26, exits := [(0, [(3, .s)])] } [(3, .s), (8, .i .i64)] ex) e, μ)
noncomputable def overdubref01_Of_L1 (os vs : List AV) (μ : AMem) : Option Res := loopA (overdubref01_Of_L1_B os) vs μ
theorem overdubref01_Of_L2_B_eq (s0 : SV) (s4 : Int) (s7 : Int) (s8 : Int) (s3 : SV) (s5 : Int) (μ : AMem) : overdubref01_Of_L2_B [.s s0, .s (.int .i64 s4), .s (.int .i64 s7), .s (.int .i64 s8)] [.s s3, .s (.int .i64 s5)] μ =
  bif decide (s5 ≥ 0) then
  (indS 1 (.s s0) s4 fun p33 =>
    loadAt (μ.bump 12) p33 fun v34 =>
    asI .u8 v34 fun n35 =>
    if (IntKind.wrap .u64 s5) < 0 then none else
    (appendA 5 1 1 (μ.next + 10) ((μ.bump 12).set (μ.next + 9) (rowObj [.int .u8 (IntKind.wrap .u8 (BitVec.toNat ((BitVec.ofInt (IntKind.bits .u8) (Int.fdiv n35 (2 ^ (min (Int.toNat (IntKind.wrap .u64 s5)) (IntKind.bits .u8))))) &&& (BitVec.ofInt (IntKind.bits .u8) 1))))] 1 5 (some 1))) (.s s3) (.s (.slice (μ.next + 9) 0 0 1)) fun x36 m37 =>
      asS x36 fun x38 =>
      some (.normal, [.s x38, .s (.int .i64 (IntKind.wrap .i64 (s5 - 1)))], m37)))
  else
  (some (.exit 2, [.s s0, .s s3, .s (.int .i64 s7), .s (.int .i64 s8)], μ)) := by kernel_rfl
theorem overdubref01_Of_L2_eq (os vs : List AV) (μ : AMem) : overdubref01_Of_L2 os vs μ = (overdubref01_Of_L2_B os vs μ).bind fun r => match r.1 with | .normal => overdubref01_Of_L2 os r.2.1 r.2.2 | _ => some r := loopA_eq _ _ _
theorem overdubref01_Of_L1_B_eq (s0 : SV) (s7 : Int) (s3 : SV) (s8 : Int) (μ : AMem) : overdubref01_Of_L1_B [.s s0, .s (.int .i64 s7)] [.s s3, .s (.int .i64 s8)] μ =
  bif decide (s8 < s7) then
  (seqJ (overdubref01_Of_L2 [.s s0, .s (.int .i64 s8), .s (.int .i64 s7), .s (.int .i64 s8)] [.s s3, .s (.int .i64 7)] μ)
    (fun _ _ => none)
    (fun vs13 m14 =>
      headK vs13 fun a18 r19 =>
      asS a18 fun x20 =>
      some (.ret, [.s x20], m14))
    (fun d17 vs15 m16 =>
      bif Nat.beq 2 d17 then (headK vs15 fun a21 r22 =>
        asS a21 fun x23 =>
        headK r22 fun a24 r25 =>
        asS a24 fun x26 =>
        headK r25 fun a27 r28 =>
        asI .i64 a27 fun n29 =>
        headK r28 fun a30 r31 =>
        asI .i64 a30 fun n32 =>
        some (.normal, [.s x26, .s (.int .i64 (IntKind.wrap .i64 (n32 + 1)))], m16)) else (none)))
  else
  (some (.exit 0, [.s s3], μ)) := by kernel_rfl
theorem overdubref01_Of_L1_eq (os vs : List AV) (μ : AMem) : overdubref01_Of_L1 os vs μ = (overdubref01_Of_L1_B os vs μ).bind fun r => match r.1 with | .normal => overdubref01_Of_L1 os r.2.1 r.2.2 | _ => some r := loopA_eq _ _ _
theorem overdubref01_Of_eq (p0 : SV) (μ : AMem) : overdubref01_Of [.s p0] μ =
  (lenS (.s p0)).bind fun l1 =>
  seqJ (overdubref01_Of_L1 [.s p0, .s (.int .i64 ((l1 : Nat) : Int))] [.s .nilSlice, .s (.int .i64 0)] μ)
  (fun _ _ => none)
  (fun vs2 m3 =>
    headK vs2 fun a7 r8 =>
    asS a7 fun x9 =>
    some (.s x9, m3))
  (fun d6 vs4 m5 =>
    bif Nat.beq 0 d6 then (headK vs4 fun a10 r11 =>
      asS a10 fun x12 =>
      some (.s x12, m5)) else (none)) := by kernel_rfl

/-! ### (*overdub/bits.Reader).Ones -/
noncomputable def G27 : FuncId → FunA := fun g => bif Nat.beq g 24 then bits_Reader_Left else bif Nat.beq g 34 then bits_Reader_digit else fun _ _ => none
theorem G27_24 : G27 24 = bits_Reader_Left := by kernel_rfl
theorem G27_34 : G27 34 = bits_Reader_digit := by kernel_rfl
def A27 : Ann := .two (.leaf) (.two (.join [(13, .b)] [0, 1] [] (.leaf) (.two (.two (.leaf) (.leaf)) (.leaf))) (.two (.leaf) (.two (.two (.leaf) (.join [(0, .s), (1, .i .i64)] [] [] (.loop [(17, .i .i64)] [0, 1, 6, 16] [0] (.two (.leaf) (.two (.two (.leaf) (.leaf)) (.two (.join [(0, .s), (1, .i .i64), (6, .i .i64), (16, .i .i64), (17, .i .i64)] [] [] (.two (.leaf) (.two (.two (.leaf) (.two (.two (.leaf) (.leaf)) (.leaf))) (.two (.leaf) (.two (.two (.leaf) (.two (.leaf) (.leaf))) (.leaf))))) .leaf) (.leaf))))) .leaf)) (.two (.leaf) (.two (.leaf) (.leaf))))))
def R27 : Slots := [(4, .i .i64), (5, .b)]
noncomputable def bits_Reader_Ones : FunA := denF Try.prog G27 Try.f27 A27 R27
noncomputable def bits_Reader_Ones_L1_B (os vs : List AV) (μ : AMem) : Option Res := joinK [(17, .i .i64)] vs (envO [0, 1, 6, 16] os) fun e => den Try.prog G27 Try.f27.ntmps (cL (cL (cR (cL (cR (cR (cR (bodyOf Try.f27)))))))) (aL (aL (aR (aL (aR (aR (aR A27))))))) { ret := R27, exits := [(0, [(0, .s), (1, .i .i64)])] } Res e μ fun ex e μ => some (ex, valsOf (Lv.at { ret := R27, exits := [(0, [(0, .s), (1, .i .i64)])] } [(17, .i .i64)] ex) e, μ)
noncomputable def bits_Reader_Ones_L1 (os vs : List AV) (μ : AMem) : Option Res := loopA (bits_Reader_Ones_L1_B os) vs μ
theorem bits_Reader_Ones_L1_B_eq (s0 t0 u0 : Nat) (s1 : Int) (s6 : Int) (s16 : Int) (s17 : Int) (μ : AMem) : bits_Reader_Ones_L1_B [.s (.ptr s0 t0 u0), .s (.int .i64 s1), .s (.int .i64 s6), .s (.int .i64 s16)] [.s (.int .i64 s17)] μ =
  bif decide (s17 < s16) then
  (bif decide (s17 ≥ s6) then
    (some (.ret, [.s (.int .i64 0), .s (.bool false)], μ))
    else
    ((bits_Reader_digit [.s (.ptr s0 t0 u0), .s (.int .i64 s17)] μ).bind fun r41 =>
      asI .i64 r41.1 fun n42 =>
      bif (n42 == 0) then
      ((r41.2.cell s0 t0 (u0 + 1)).bind fun x43 =>
        asI .i64 (.s x43) fun n44 =>
        (r41.2.store s0 t0 (u0 + 1) [.int .i64 (IntKind.wrap .i64 ((IntKind.wrap .i64 (n44 + s17)) + 1))]).bind fun m45 =>
        some (.ret, [.s (.int .i64 s17), .s (.bool true)], m45))
      else
      (some (.normal, [.s (.int .i64 (IntKind.wrap .i64 (s17 + 1)))], r41.2))))
  else
  (some (.exit 0, [.s (.ptr s0 t0 u0), .s (.int .i64 s1)], μ)) := by rw [← G27_34]; kernel_rfl
theorem bits_Reader_Ones_L1_eq (os vs : List AV) (μ : AMem) : bits_Reader_Ones_L1 os vs μ = (bits_Reader_Ones_L1_B os vs μ).bind fun r => match r.1 with | .normal => bits_Reader_Ones_L1 os r.2.1 r.2.2 | _ => some r := loopA_eq _ _ _
theorem bits_Reader_Ones_eq (p0 q0 o0 : Nat) (p1 : Int) (μ : AMem) : bits_Reader_Ones [.s (.ptr p0 q0 o0), .s (.int .i64 p1)] μ =
  seqJ
  (bif !(decide (p1 < 0)) then
    (some (.normal, [.s (.bool (decide (p1 > 1024)))], μ))
    else
    (some (.normal, [.s (.bool true)], μ)))
  (fun vs1 m2 =>
    headK vs1 fun a3 r4 =>
    asB a3 fun b5 =>
    bif b5 then
    (some (.tuple [.s (.int .i64 0), .s (.bool false)], m2))
    else
    ((bits_Reader_Left [.s (.ptr p0 q0 o0)] m2).bind fun r6 =>
      asI .i64 r6.1 fun n7 =>
      seqJ (bits_Reader_Ones_L1 [.s (.ptr p0 q0 o0), .s (.int .i64 p1), .s (.int .i64 n7), .s (.int .i64 p1)] [.s (.int .i64 0)] r6.2)
      (fun _ _ => none)
      (fun vs8 m9 =>
        headK vs8 fun a13 r14 =>
        asI .i64 a13 fun n15 =>
        headK r14 fun a16 r17 =>
        asB a16 fun b18 =>
        some (.tuple [.s (.int .i64 n15), .s (.bool b18)], m9))
      (fun d12 vs10 m11 =>
        bif Nat.beq 0 d12 then (headK vs10 fun a19 r20 =>
          asS a19 fun x21 =>
          headK r20 fun a22 r23 =>
          asI .i64 a22 fun n24 =>
          nonNil (.s x21)
          (ptrAdd 1 (.s x21) fun p25 =>
            loadAt m11 p25 fun v26 =>
            asI .i64 v26 fun n27 =>
            nonNil (.s x21)
            (ptrAdd 1 (.s x21) fun p28 =>
              storeAt 1 m11 p28 (.s (.int .i64 (IntKind.wrap .i64 (n27 + n24)))) fun m29 =>
              some (.tuple [.s (.int .i64 n24), .s (.bool true)], m29)))) else (none))))
  (fun vs30 m31 =>
    headK vs30 fun a35 r36 =>
    asI .i64 a35 fun n37 =>
    headK r36 fun a38 r39 =>
    asB a38 fun b40 =>
    some (.tuple [.s (.int .i64 n37), .s (.bool b40)], m31))
  (fun d34 vs32 m33 =>
    none) := by rw [← G27_24]; kernel_rfl

/-! ### (overdub/overdubref01.Bits).TakeOnes -/
noncomputable def G28 : FuncId → FunA := fun _ _ _ => none
def A28 : Ann := .two (.leaf) (.two (.join [(13, .b)] [0, 1] [] (.leaf) (.two (.two (.leaf) (.leaf)) (.leaf))) (.two (.leaf) (.two (.join [(0, .s), (1, .i .i64), (7, .i .i64)] [] [] (.loop [(7, .i .i64)] [0, 1] [0] (.two (.join [(30, .b)] [0, 1, 7] [] (.leaf) (.two (.leaf) (.leaf))) (.join [(0, .s), (1, .i .i64), (7, .i .i64)] [] [] (.leaf) .leaf))) .leaf) (.two (.two (.leaf) (.two (.two (.ord [0, 1, 2, 3, 4, 5, 6]) (.leaf)) (.leaf))) (.two (.two (.leaf) (.two (.two (.leaf) (.leaf)) (.leaf))) (.two (.ord [0, 1, 2, 3, 4, 5, 6, 7]) (.leaf)))))))
def R28 : Slots := [(4, .i .i64), (5, .s), (6, .b)]
noncomputable def overdubref01_Bits_TakeOnes : FunA := denF Try.prog G28 Try.f28 A28 R28
noncomputable def overdubref01_Bits_TakeOnes_L1_B (os vs : List AV) (μ : AMem) : Option Res := joinK [(7, .i .i64)] vs (envO [0, 1] os) fun e => den Try.prog G28 Try.f28.ntmps (cL (cL (cL (cR (cR (cR (bodyOf Try.f28))))))) (aL (aL (aL (aR (aR (aR A28)))))) { ret := R28, exits := [(0, [(0, .s), (1, .i .i64), (7, .i .i64)])] } Res e μ fun ex e μ => some (ex, valsOf (Lv.at { ret := R28, exits := [(0, [(0, .s), (1, .i .i64), (7, .i .i64)])] } [(7, .i .i64)] ex) e, μ)
noncomputable def overdubref01_Bits_TakeOnes_L1 (os vs : List AV) (μ : AMem) : Option Res := loopA (overdubref01_Bits_TakeOnes_L1_B os) vs μ
theorem overdubref01_Bits_TakeOnes_L1_B_eq (s0 : SV) (s1 : Int) (s7 : Int) (μ : AMem) : overdubref01_Bits_TakeOnes_L1_B [.s s0, .s (.int .i64 s1)] [.s (.int .i64 s7)] μ =
  seqJ
  (bif decide (s7 < s1) then
    ((lenS (.s s0)).bind fun l48 =>
      bif decide (s7 < ((l48 : Nat) : Int)) then
      (indS 1 (.s s0) s7 fun p49 =>
        loadAt μ p49 fun v50 =>
        asI .u8 v50 fun n51 =>
        some (.normal, [.s (.bool (n51 == 1))], μ))
      else
      (some (.normal, [.s (.bool false)], μ)))
    else
    (some (.normal, [.s (.bool false)], μ)))
  (fun vs52 m53 =>
    headK vs52 fun a54 r55 =>
    asB a54 fun b56 =>
    bif b56 then
    (some (.normal, [.s (.int .i64 (IntKind.wrap .i64 (s7 + 1)))], m53))
    else
    (some (.exit 0, [.s s0, .s (.int .i64 s1), .s (.int .i64 s7)], m53)))
  (fun vs57 m58 =>
    headK vs57 fun a62 r63 =>
    asI .i64 a62 fun n64 =>
    headK r63 fun a65 r66 =>
    asS a65 fun x67 =>
    headK r66 fun a68 r69 =>
    asB a68 fun b70 =>
    some (.ret, [.s (.int .i64 n64), .s x67, .s (.bool b70)], m58))
  (fun d61 vs59 m60 =>
    none) := by kernel_rfl
theorem overdubref01_Bits_TakeOnes_L1_eq (os vs : List AV) (μ : AMem) : overdubref01_Bits_TakeOnes_L1 os vs μ = (overdubref01_Bits_TakeOnes_L1_B os vs μ).bind fun r => match r.1 with | .normal => overdubref01_Bits_TakeOnes_L1 os r.2.1 r.2.2 | _ => some r := loopA_eq _ _ _
theorem overdubref01_Bits_TakeOnes_eq (p0 : SV) (p1 : Int) (μ : AMem) : overdubref01_Bits_TakeOnes [.s p0, .s (.int .i64 p1)] μ =
  seqJ
  (bif !(decide (p1 < 0)) then
    (some (.normal, [.s (.bool (decide (p1 > 1024)))], μ))
    else
    (some (.normal, [.s (.bool true)], μ)))
  (fun vs1 m2 =>
    headK vs1 fun a3 r4 =>
    asB a3 fun b5 =>
    bif b5 then
    (some (.tuple [.s (.int .i64 0), .s p0, .s (.bool false)], m2))
    else
    (seqJ (overdubref01_Bits_TakeOnes_L1 [.s p0, .s (.int .i64 p1)] [.s (.int .i64 0)] m2)
      (fun _ _ => none)
      (fun vs6 m7 =>
        headK vs6 fun a11 r12 =>
        asI .i64 a11 fun n13 =>
        headK r12 fun a14 r15 =>
        asS a14 fun x16 =>
        headK r15 fun a17 r18 =>
        asB a17 fun b19 =>
        some (.tuple [.s (.int .i64 n13), .s x16, .s (.bool b19)], m7))
      (fun d10 vs8 m9 =>
        bif Nat.beq 0 d10 then (headK vs8 fun a20 r21 =>
          asS a20 fun x22 =>
          headK r21 fun a23 r24 =>
          asI .i64 a23 fun n25 =>
          headK r24 fun a26 r27 =>
          asI .i64 a26 fun n28 =>
          bif (n28 == n25) then
          ((lenS (.s x22)).bind fun l29 =>
            cutS 1 (.s x22) n28 ((l29 : Nat) : Int) fun x30 =>
            some (.tuple [.s (.int .i64 n28), x30, .s (.bool true)], m9))
          else
          ((lenS (.s x22)).bind fun l31 =>
            bif (n28 == ((l31 : Nat) : Int)) then
            (some (.tuple [.s (.int .i64 0), .s x22, .s (.bool false)], m9))
            else
            ((lenS (.s x22)).bind fun l32 =>
              cutS 1 (.s x22) (IntKind.wrap .i64 (n28 + 1)) ((l32 : Nat) : Int) fun x33 =>
              some (.tuple [.s (.int .i64 n28), x33, .s (.bool true)], m9)))) else (none))))
  (fun vs34 m35 =>
    headK vs34 fun a39 r40 =>
    asI .i64 a39 fun n41 =>
    headK r40 fun a42 r43 =>
    asS a42 fun x44 =>
    headK r43 fun a45 r46 =>
    asB a45 fun b47 =>
    some (.tuple [.s (.int .i64 n41), .s x44, .s (.bool b47)], m35))
  (fun d38 vs36 m37 =>
    none) := by kernel_rfl

/-! ### (overdub/overdubref01.Bits).Get -/
noncomputable def G29 : FuncId → FunA := fun _ _ _ => none
def A29 : Ann := .two (.leaf) (.two (.join [(20, .b)] [0, 1] [] (.leaf) (.two (.two (.leaf) (.leaf)) (.leaf))) (.two (.leaf) (.two (.two (.leaf) (.join [(0, .s), (1, .i .i64), (7, .i .i64)] [] [] (.loop [(7, .i .i64), (8, .i .i64)] [0, 1] [0] (.two (.two (.leaf) (.two (.leaf) (.leaf))) (.two (.join [(0, .s), (1, .i .i64), (7, .i .i64), (8, .i .i64)] [] [] (.leaf) .leaf) (.leaf)))) .leaf)) (.two (.ord [0, 1, 2, 3, 4, 5, 6]) (.leaf)))))
def R29 : Slots := [(4, .i .i64), (5, .s), (6, .b)]
noncomputable def overdubref01_Bits_Get : FunA := denF Try.prog G29 Try.f29 A29 R29
noncomputable def overdubref01_Bits_Get_L1_B (os vs : List AV) (μ : AMem) : Option Res := joinK [(7, .i .i64), (8, .i .i64)] vs (envO [0, 1] os) fun e => den Try.prog G29 Try.f29.ntmps (cL (cL (cR (cL (cR (cR (cR (bodyOf Try.f29)))))))) (aL (aL (aR (aL (aR (aR (aR A29))))))) { ret := R29, exits := [(0, [(0, .s), (1, .i .i64), (7, .i .i64)])] } Res e μ fun ex e μ => some (ex, valsOf (Lv.at { ret := R29, exits := [(0, [(0, .s), (1, .i .i64), (7, .i .i64)])] } [(7, .i .i64), (8, .i .i64)] ex) e, μ)
noncomputable def overdubref01_Bits_Get_L1 (os vs : List AV) (μ : AMem) : Option Res := loopA (overdubref01_Bits_Get_L1_B os) vs μ
theorem overdubref01_Bits_Get_L1_B_eq (s0 : SV) (s1 : Int) (s7 : Int) (s8 : Int) (μ : AMem) : overdubref01_Bits_Get_L1_B [.s s0, .s (.int .i64 s1)] [.s (.int .i64 s7), .s (.int .i64 s8)] μ =
  bif decide (s8 < s1) then
  (indS 1 (.s s0) s8 fun p46 =>
    loadAt μ p46 fun v47 =>
    asI .u8 v47 fun n48 =>
    some (.normal, [.s (.int .i64 (IntKind.wrap .i64 ((IntKind.wrap .i64 (2 * s7)) + (IntKind.wrap .i64 n48)))), .s (.int .i64 (IntKind.wrap .i64 (s8 + 1)))], μ))
  else
  (some (.exit 0, [.s s0, .s (.int .i64 s1), .s (.int .i64 s7)], μ)) := by kernel_rfl
theorem overdubref01_Bits_Get_L1_eq (os vs : List AV) (μ : AMem) : overdubref01_Bits_Get_L1 os vs μ = (overdubref01_Bits_Get_L1_B os vs μ).bind fun r => match r.1 with | .normal => overdubref01_Bits_Get_L1 os r.2.1 r.2.2 | _ => some r := loopA_eq _ _ _
theorem overdubref01_Bits_Get_eq (p0 : SV) (p1 : Int) (μ : AMem) : overdubref01_Bits_Get [.s p0, .s (.int .i64 p1)] μ =
  seqJ
  (bif !(decide (p1 < 0)) then
    (bif !(decide (p1 > 62)) then
      ((lenS (.s p0)).bind fun l1 =>
        some (.normal, [.s (.bool (decide (p1 > ((l1 : Nat) : Int))))], μ))
      else
      (some (.normal, [.s (.bool true)], μ)))
    else
    (some (.normal, [.s (.bool true)], μ)))
  (fun vs2 m3 =>
    headK vs2 fun a4 r5 =>
    asB a4 fun b6 =>
    bif b6 then
    (some (.tuple [.s (.int .i64 0), .s p0, .s (.bool false)], m3))
    else
    (seqJ (overdubref01_Bits_Get_L1 [.s p0, .s (.int .i64 p1)] [.s (.int .i64 0), .s (.int .i64 0)] m3)
      (fun _ _ => none)
      (fun vs7 m8 =>
        headK vs7 fun a12 r13 =>
        asI .i64 a12 fun n14 =>
        headK r13 fun a15 r16 =>
        asS a15 fun x17 =>
        headK r16 fun a18 r19 =>
        asB a18 fun b20 =>
        some (.tuple [.s (.int .i64 n14), .s x17, .s (.bool b20)], m8))
      (fun d11 vs9 m10 =>
        bif Nat.beq 0 d11 then (headK vs9 fun a21 r22 =>
          asS a21 fun x23 =>
          headK r22 fun a24 r25 =>
          asI .i64 a24 fun n26 =>
          headK r25 fun a27 r28 =>
          asI .i64 a27 fun n29 =>
          (lenS (.s x23)).bind fun l30 =>
          cutS 1 (.s x23) n26 ((l30 : Nat) : Int) fun x31 =>
          some (.tuple [.s (.int .i64 n29), x31, .s (.bool true)], m10)) else (none))))
  (fun vs32 m33 =>
    headK vs32 fun a37 r38 =>
    asI .i64 a37 fun n39 =>
    headK r38 fun a40 r41 =>
    asS a40 fun x42 =>
    headK r41 fun a43 r44 =>
    asB a43 fun b45 =>
    some (.tuple [.s (.int .i64 n39), .s x42, .s (.bool b45)], m33))
  (fun d36 vs34 m35 =>
    none) := by kernel_rfl

/-! ### (*overdub/bits.Reader).Rest -/
noncomputable def G30 : FuncId → FunA := fun g => bif Nat.beq g 24 then bits_Reader_Left else bif Nat.beq g 34 then bits_Reader_digit else fun _ _ => none
theorem G30_24 : G30 24 = bits_Reader_Left := by kernel_rfl
theorem G30_34 : G30 34 = bits_Reader_digit := by kernel_rfl
def A30 : Ann := .two (.leaf) (.two (.two (.leaf) (.join [] [] [] (.loop [(6, .i .i64)] [0, 5] [0] (.two (.leaf) (.two (.two (.leaf) (.leaf)) (.two (.join [(0, .s), (5, .i .i64), (6, .i .i64)] [] [] (.two (.leaf) (.two (.leaf) (.two (.two (.leaf) (.leaf)) (.leaf)))) .leaf) (.leaf))))) .leaf)) (.two (.leaf) (.leaf)))
def R30 : Slots := [(2, .b)]
noncomputable def bits_Reader_Rest : FunA := denF Try.prog G30 Try.f30 A30 R30
noncomputable def bits_Reader_Rest_L1_B (os vs : List AV) (μ : AMem) : Option Res := joinK [(6, .i .i64)] vs (envO [0, 5] os) fun e => den Try.prog G30 Try.f30.ntmps (cL (cL (cR (cL (cR (bodyOf Try.f30)))))) (aL (aL (aR (aL (aR A30))))) { ret := R30, exits := [(0, [])] } Res e μ fun ex e μ => some (ex, valsOf (Lv.at { ret := R30, exits := [(0, [])] } [(6, .i .i64)] ex) e, μ)
noncomputable def bits_Reader_Rest_L1 (os vs : List AV) (μ : AMem) : Option Res := loopA (bits_Reader_Rest_L1_B os) vs μ
theorem bits_Reader_Rest_L1_B_eq (s0 t0 u0 : Nat) (s5 : Int) (s6 : Int) (μ : AMem) : bits_Reader_Rest_L1_B [.s (.ptr s0 t0 u0), .s (.int .i64 s5)] [.s (.int .i64 s6)] μ =
  bif decide (s6 < s5) then
  ((bits_Reader_digit [.s (.ptr s0 t0 u0), .s (.int .i64 s6)] μ).bind fun r11 =>
    asI .i64 r11.1 fun n12 =>
    bif (n12 == 1) then
    (some (.ret, [.s (.bool false)], r11.2))
    else
    (some (.normal, [.s (.int .i64 (IntKind.wrap .i64 (s6 + 1)))], r11.2)))
  else
  (some (.exit 0, [], μ)) := by rw [← G30_34]; kernel_rfl
theorem bits_Reader_Rest_L1_eq (os vs : List AV) (μ : AMem) : bits_Reader_Rest_L1 os vs μ = (bits_Reader_Rest_L1_B os vs μ).bind fun r => match r.1 with | .normal => bits_Reader_Rest_L1 os r.2.1 r.2.2 | _ => some r := loopA_eq _ _ _
theorem bits_Reader_Rest_eq (p0 q0 o0 : Nat) (μ : AMem) : bits_Reader_Rest [.s (.ptr p0 q0 o0)] μ =
  (bits_Reader_Left [.s (.ptr p0 q0 o0)] μ).bind fun r1 =>
  asI .i64 r1.1 fun n2 =>
  seqJ (bits_Reader_Rest_L1 [.s (.ptr p0 q0 o0), .s (.int .i64 n2)] [.s (.int .i64 0)] r1.2)
  (fun _ _ => none)
  (fun vs3 m4 =>
    headK vs3 fun a8 r9 =>
    asB a8 fun b10 =>
    some (.s (.bool b10), m4))
  (fun d7 vs5 m6 =>
    bif Nat.beq 0 d7 then (some (.s (.bool true), m6)) else (none)) := by rw [← G30_24]; kernel_rfl

/-! ### (overdub/overdubref01.Bits).Rest -/
noncomputable def G31 : FuncId → FunA := fun _ _ _ => none
def A31 : Ann := .two (.leaf) (.two (.two (.leaf) (.join [] [] [] (.loop [(6, .i .i64)] [0, 5] [0] (.two (.leaf) (.two (.two (.leaf) (.leaf)) (.two (.join [(0, .s), (5, .i .i64), (6, .i .i64)] [] [] (.two (.leaf) (.two (.leaf) (.two (.two (.leaf) (.leaf)) (.leaf)))) .leaf) (.leaf))))) .leaf)) (.two (.leaf) (.leaf)))
def R31 : Slots := [(2, .b)]
noncomputable def overdubref01_Bits_Rest : FunA := denF Try.prog G31 Try.f31 A31 R31
noncomputable def overdubref01_Bits_Rest_L1_B (os vs : List AV) (μ : AMem) : Option Res := joinK [(6, .i .i64)] vs (envO [0, 5] os) fun e => den Try.prog G31 Try.f31.ntmps (cL (cL (cR (cL (cR (bodyOf Try.f31)))))) (aL (aL (aR (aL (aR A31))))) { ret := R31, exits := [(0, [])] } Res e μ fun ex e μ => some (ex, valsOf (Lv.at { ret := R31, exits := [(0, [])] } [(6, .i .i64)] ex) e, μ)
noncomputable def overdubref01_Bits_Rest_L1 (os vs : List AV) (μ : AMem) : Option Res := loopA (overdubref01_Bits_Rest_L1_B os) vs μ
theorem overdubref01_Bits_Rest_L1_B_eq (s0 : SV) (s5 : Int) (s6 : Int) (μ : AMem) : overdubref01_Bits_Rest_L1_B [.s s0, .s (.int .i64 s5)] [.s (.int .i64 s6)] μ =
  bif decide (s6 < s5) then
  (indS 1 (.s s0) s6 fun p10 =>
    loadAt μ p10 fun v11 =>
    asI .u8 v11 fun n12 =>
    bif (n12 != 0) then
    (some (.ret, [.s (.bool false)], μ))
    else
    (some (.normal, [.s (.int .i64 (IntKind.wrap .i64 (s6 + 1)))], μ)))
  else
  (some (.exit 0, [], μ)) := by kernel_rfl
theorem overdubref01_Bits_Rest_L1_eq (os vs : List AV) (μ : AMem) : overdubref01_Bits_Rest_L1 os vs μ = (overdubref01_Bits_Rest_L1_B os vs μ).bind fun r => match r.1 with | .normal => overdubref01_Bits_Rest_L1 os r.2.1 r.2.2 | _ => some r := loopA_eq _ _ _
theorem overdubref01_Bits_Rest_eq (p0 : SV) (μ : AMem) : overdubref01_Bits_Rest [.s p0] μ =
  (lenS (.s p0)).bind fun l1 =>
  seqJ (overdubref01_Bits_Rest_L1 [.s p0, .s (.int .i64 ((l1 : Nat) : Int))] [.s (.int .i64 0)] μ)
  (fun _ _ => none)
  (fun vs2 m3 =>
    headK vs2 fun a7 r8 =>
    asB a7 fun b9 =>
    some (.s (.bool b9), m3))
  (fun d6 vs4 m5 =>
    bif Nat.beq 0 d6 then (some (.s (.bool true), m5)) else (none)) := by kernel_rfl

/-! ### overdub/overdubkeep.Intact -/
noncomputable def G32 : FuncId → FunA := fun _ _ _ => none
def A32 : Ann := .two (.wide) (.two (.join [(19, .b)] [0, 1] [] (.wide) (.two (.two (.wide) (.leaf)) (.leaf))) (.two (.wide) (.two (.two (.wide) (.join [] [] [] (.loop [(27, .i .i64)] [1, 5, 26] [0] (.two (.wide) (.two (.two (.leaf) (.leaf)) (.two (.join [(1, .s), (5, .s), (26, .i .i64), (27, .i .i64)] [] [] (.two (.wide) (.join [(57, .b)] [1, 5, 26, 27] [] (.ord [0, 1, 2, 3, 4, 5, 6, 7, 8, 9, 10, 11, 12, 13, 14, 15, 16, 17, 18, 19, 20, 21, 22, 23, 24, 25, 26, 27]) (.two (.two (.wide) (.leaf)) (.leaf)))) .leaf) (.wide))))) .leaf)) (.two (.wide) (.leaf)))))
def R32 : Slots := [(4, .b)]
noncomputable def overdubkeep_Intact : FunA := denF Try.prog G32 Try.f32 A32 R32
noncomputable def overdubkeep_Intact_L1_B (os vs : List AV) (μ : AMem) : Option Res := joinK [(27, .i .i64)] vs (envO [1, 5, 26] os) fun e => den Try.prog G32 Try.f32.ntmps (cL (cL (cR (cL (cR (cR (cR (bodyOf Try.f32)))))))) (aL (aL (aR (aL (aR (aR (aR A32))))))) { ret := R32, exits := [(0, [])] } Res e μ fun ex e μ => some (ex, valsOf (Lv.at { ret := R32, exits := [(0, [])] } [(27, .i .i64)] ex) e, μ)
noncomputable def overdubkeep_Intact_L1 (os vs : List AV) (μ : AMem) : Option Res := loopA (overdubkeep_Intact_L1_B os) vs μ
theorem overdubkeep_Intact_L1_B_eq (s1 : SV) (s5 : SV) (s26 : Int) (s27 : Int) (μ : AMem) : overdubkeep_Intact_L1_B [.s s1, .s s5, .s (.int .i64 s26)] [.s (.int .i64 s27)] μ =
  bif decide (s27 < s26) then
  (seqJ
    ((lenS (.s s1)).bind fun l30 =>
      bif decide (s27 < ((l30 : Nat) : Int)) then
      (indS 1 (.s s5) s27 fun p31 =>
        loadAt μ p31 fun v32 =>
        asI .u8 v32 fun n33 =>
        indS 1 (.s s1) s27 fun p34 =>
        loadAt μ p34 fun v35 =>
        asI .u8 v35 fun n36 =>
        bif !(n33 != n36) then
        ((lenS (.s s1)).bind fun l37 =>
          bif decide (s27 ≥ ((l37 : Nat) : Int)) then
          (indS 1 (.s s5) s27 fun p38 =>
            loadAt μ p38 fun v39 =>
            asI .u8 v39 fun n40 =>
            some (.normal, [.s (.bool (n40 != 85))], μ))
          else
          (some (.normal, [.s (.bool false)], μ)))
        else
        (some (.normal, [.s (.bool true)], μ)))
      else
      ((lenS (.s s1)).bind fun l41 =>
        bif decide (s27 ≥ ((l41 : Nat) : Int)) then
        (indS 1 (.s s5) s27 fun p42 =>
          loadAt μ p42 fun v43 =>
          asI .u8 v43 fun n44 =>
          some (.normal, [.s (.bool (n44 != 85))], μ))
        else
        (some (.normal, [.s (.bool false)], μ))))
    (fun vs45 m46 =>
      headK vs45 fun a47 r48 =>
      asB a47 fun b49 =>
      bif b49 then
      (some (.ret, [.s (.bool false)], m46))
      else
      (some (.normal, [.s (.int .i64 (IntKind.wrap .i64 (s27 + 1)))], m46)))
    (fun vs50 m51 =>
      headK vs50 fun a55 r56 =>
      asB a55 fun b57 =>
      some (.ret, [.s (.bool b57)], m51))
    (fun d54 vs52 m53 =>
      none))
  else
  (some (.exit 0, [], μ)) := by kernel_rfl
theorem overdubkeep_Intact_L1_eq (os vs : List AV) (μ : AMem) : overdubkeep_Intact_L1 os vs μ = (overdubkeep_Intact_L1_B os vs μ).bind fun r => match r.1 with | .normal => overdubkeep_Intact_L1 os r.2.1 r.2.2 | _ => some r := loopA_eq _ _ _
theorem overdubkeep_Intact_eq (p0 : SV) (p1 : SV) (μ : AMem) : overdubkeep_Intact [.s p0, .s p1] μ =
  seqJ
  ((lenS (.s p0)).bind fun l1 =>
    (lenS (.s p1)).bind fun l2 =>
    bif !(((l1 : Nat) : Int) != ((l2 : Nat) : Int)) then
    (capA μ (.s p0) fun n3 =>
      asI .i64 n3 fun n4 =>
      (lenS (.s p1)).bind fun l5 =>
      some (.normal, [.s (.bool (n4 != (IntKind.wrap .i64 (((l5 : Nat) : Int) + 3))))], μ))
    else
    (some (.normal, [.s (.bool true)], μ)))
  (fun vs6 m7 =>
    headK vs6 fun a8 r9 =>
    asB a8 fun b10 =>
    bif b10 then
    (some (.s (.bool false), m7))
    else
    ((lenS (.s p1)).bind fun l11 =>
      cutM 1 m7 (.s p0) 0 (IntKind.wrap .i64 (((l11 : Nat) : Int) + 3)) fun x12 =>
      (lenS x12).bind fun l13 =>
      seqJ (overdubkeep_Intact_L1 [.s p1, x12, .s (.int .i64 ((l13 : Nat) : Int))] [.s (.int .i64 0)] m7)
      (fun _ _ => none)
      (fun vs14 m15 =>
        headK vs14 fun a19 r20 =>
        asB a19 fun b21 =>
        some (.s (.bool b21), m15))
      (fun d18 vs16 m17 =>
        bif Nat.beq 0 d18 then (some (.s (.bool true), m17)) else (none))))
  (fun vs22 m23 =>
    headK vs22 fun a27 r28 =>
    asB a27 fun b29 =>
    some (.s (.bool b29), m23))
  (fun d26 vs24 m25 =>
    none) := by kernel_rfl

/-! ### overdub/overdublaw01.BitsReads -/
noncomputable def G6 : FuncId → FunA := fun g => bif Nat.beq g 23 then overdubkeep_Cut_byte else bif Nat.beq g 25 then overdubkeep_Lend else bif Nat.beq g 21 then bits_NewReader else bif Nat.beq g 26 then overdubref01_Of else bif Nat.beq g 10 then overdubkeep_Within else bif Nat.beq g 27 then bits_Reader_Ones else bif Nat.beq g 28 then overdubref01_Bits_TakeOnes else bif Nat.beq g 22 then bits_Reader_Get else bif Nat.beq g 29 then overdubref01_Bits_Get else bif Nat.beq g 24 then bits_Reader_Left else bif Nat.beq g 30 then bits_Reader_Rest else bif Nat.beq g 31 then overdubref01_Bits_Rest else bif Nat.beq g 32 then overdubkeep_Intact else bif Nat.beq g 20 then overdublaw01_wakes else fun _ _ => none
theorem G6_23 : G6 23 = overdubkeep_Cut_byte := by kernel_rfl
theorem G6_25 : G6 25 = overdubkeep_Lend := by kernel_rfl
theorem G6_21 : G6 21 = bits_NewReader := by kernel_rfl
theorem G6_26 : G6 26 = overdubref01_Of := by kernel_rfl
theorem G6_10 : G6 10 = overdubkeep_Within := by kernel_rfl
theorem G6_27 : G6 27 = bits_Reader_Ones := by kernel_rfl
theorem G6_28 : G6 28 = overdubref01_Bits_TakeOnes := by kernel_rfl
theorem G6_22 : G6 22 = bits_Reader_Get := by kernel_rfl
theorem G6_29 : G6 29 = overdubref01_Bits_Get := by kernel_rfl
theorem G6_24 : G6 24 = bits_Reader_Left := by kernel_rfl
theorem G6_30 : G6 30 = bits_Reader_Rest := by kernel_rfl
theorem G6_31 : G6 31 = overdubref01_Bits_Rest := by kernel_rfl
theorem G6_32 : G6 32 = overdubkeep_Intact := by kernel_rfl
theorem G6_20 : G6 20 = overdublaw01_wakes := by kernel_rfl
def A6 : Ann := .two (.leaf) (.two (.leaf) (.two (.leaf) (.two (.leaf) (.two (.two (.leaf) (.two (.two (.leaf) (.leaf)) (.leaf))) (.two (.leaf) (.two (.two (.leaf) (.join [(0, .s), (5, .s)] [] [] (.loop [(7, .s), (8, .i .i64)] [0, 1, 5, 6] [0] (.two (.join [(31, .b)] [0, 1, 5, 6, 7, 8] [] (.leaf) (.two (.leaf) (.leaf))) (.two (.join [(0, .s), (1, .s), (5, .s), (6, .s), (7, .s), (8, .i .i64)] [] [] (.two (.leaf) (.two (.leaf) (.two (.leaf) (.join [(7, .s), (10, .i .i64), (11, .i .i64), (12, .b), (13, .b)] [0, 1, 5, 6, 8] [] (.two (.leaf) (.two (.two (.leaf) (.leaf)) (.two (.leaf) (.leaf)))) (.join [(93, .b)] [0, 1, 5, 6, 7, 8] [] (.leaf) (.two (.two (.leaf) (.leaf)) (.leaf))))))) .leaf) (.leaf)))) .leaf)) (.two (.leaf) (.leaf))))))))
def R6 : Slots := [(4, .b)]
noncomputable def overdublaw01_BitsReads : FunA := denF Try.prog G6 Try.f6 A6 R6
noncomputable def overdublaw01_BitsReads_L1_B (os vs : List AV) (μ : AMem) : Option Res := joinK [(7, .s), (8, .i .i64)] vs (envO [0, 1, 5, 6] os) fun e => den Try.prog G6 Try.f6.ntmps (cL (cL (cR (cL (cR (cR (cR (cR (cR (cR (bodyOf Try.f6))))))))))) (aL (aL (aR (aL (aR (aR (aR (aR (aR (aR A6)))))))))) { ret := R6, exits := [(0, [(0, .s), (5, .s)])] } Res e μ fun ex e μ => some (ex, valsOf (Lv.at { ret := R6, exits := [(0, [(0, .s), (5, .s)])] } [(7, .s), (8, .i .i64)] ex) e, μ)
noncomputable def overdublaw01_BitsReads_L1 (os vs : List AV) (μ : AMem) : Option Res := loopA (overdublaw01_BitsReads_L1_B os) vs μ
theorem overdublaw01_BitsReads_L1_B_eq (s0 : SV) (s1 : SV) (s5 : SV) (s6 : SV) (s7 : SV) (s8 : Int) (μ : AMem) : overdublaw01_BitsReads_L1_B [.s s0, .s s1, .s s5, .s s6] [.s s7, .s (.int .i64 s8)] μ =
  seqJ
  ((lenS (.s s1)).bind fun l28 =>
    bif decide (s8 < ((l28 : Nat) : Int)) then
    (some (.normal, [.s (.bool (decide (s8 < 30)))], μ))
    else
    (some (.normal, [.s (.bool false)], μ)))
  (fun vs29 m30 =>
    headK vs29 fun a31 r32 =>
    asB a31 fun b33 =>
    bif b33 then
    (indS 3 (.s s1) s8 fun p34 =>
      ptrAdd 2 p34 fun p35 =>
      loadAt m30 p35 fun v36 =>
      asI .i64 v36 fun n37 =>
      seqJ
      (indS 3 (.s s1) s8 fun p38 =>
        ptrAdd 0 p38 fun p39 =>
        loadAt m30 p39 fun v40 =>
        asI .i64 v40 fun n41 =>
        (overdubkeep_Within [.s (.int .i64 n41), .s (.int .i64 3)] m30).bind fun r42 =>
        asI .i64 r42.1 fun n43 =>
        bif (n43 == 2) then
        ((bits_Reader_Ones [.s s6, .s (.int .i64 n37)] r42.2).bind fun r44 =>
          extrK 0 r44.1 fun t45 =>
          asI .i64 t45 fun n46 =>
          extrK 1 r44.1 fun t47 =>
          asB t47 fun b48 =>
          (overdubref01_Bits_TakeOnes [.s s7, .s (.int .i64 n37)] r44.2).bind fun r49 =>
          extrK 0 r49.1 fun t50 =>
          asI .i64 t50 fun n51 =>
          extrK 1 r49.1 fun t52 =>
          asS t52 fun x53 =>
          extrK 2 r49.1 fun t54 =>
          asB t54 fun b55 =>
          some (.normal, [.s x53, .s (.int .i64 n46), .s (.int .i64 n51), .s (.bool b48), .s (.bool b55)], r49.2))
        else
        ((bits_Reader_Get [.s s6, .s (.int .i64 n37)] r42.2).bind fun r56 =>
          extrK 0 r56.1 fun t57 =>
          asI .i64 t57 fun n58 =>
          extrK 1 r56.1 fun t59 =>
          asB t59 fun b60 =>
          (overdubref01_Bits_Get [.s s7, .s (.int .i64 n37)] r56.2).bind fun r61 =>
          extrK 0 r61.1 fun t62 =>
          asI .i64 t62 fun n63 =>
          extrK 1 r61.1 fun t64 =>
          asS t64 fun x65 =>
          extrK 2 r61.1 fun t66 =>
          asB t66 fun b67 =>
          some (.normal, [.s x65, .s (.int .i64 n58), .s (.int .i64 n63), .s (.bool b60), .s (.bool b67)], r61.2)))
      (fun vs68 m69 =>
        headK vs68 fun a70 r71 =>
        asS a70 fun x72 =>
        headK r71 fun a73 r74 =>
        asI .i64 a73 fun n75 =>
        headK r74 fun a76 r77 =>
        asI .i64 a76 fun n78 =>
        headK r77 fun a79 r80 =>
        asB a79 fun b81 =>
        headK r80 fun a82 r83 =>
        asB a82 fun b84 =>
        seqJ
        (bif !(n75 != n78) then
          (bif !(!(b81 == b84)) then
            ((bits_Reader_Left [.s s6] m69).bind fun r85 =>
              asI .i64 r85.1 fun n86 =>
              (lenS (.s x72)).bind fun l87 =>
              bif !(n86 != ((l87 : Nat) : Int)) then
              ((bits_Reader_Rest [.s s6] r85.2).bind fun r88 =>
                asB r88.1 fun b89 =>
                (overdubref01_Bits_Rest [.s x72] r88.2).bind fun r90 =>
                asB r90.1 fun b91 =>
                some (.normal, [.s (.bool (!(b89 == b91)))], r90.2))
              else
              (some (.normal, [.s (.bool true)], r85.2)))
            else
            (some (.normal, [.s (.bool true)], m69)))
          else
          (some (.normal, [.s (.bool true)], m69)))
        (fun vs92 m93 =>
          headK vs92 fun a94 r95 =>
          asB a94 fun b96 =>
          bif b96 then
          (some (.ret, [.s (.bool false)], m93))
          else
          (some (.normal, [.s x72, .s (.int .i64 (IntKind.wrap .i64 (s8 + 1)))], m93)))
        (fun vs97 m98 =>
          headK vs97 fun a102 r103 =>
          asB a102 fun b104 =>
          some (.ret, [.s (.bool b104)], m98))
        (fun d101 vs99 m100 =>
          none))
      (fun vs105 m106 =>
        headK vs105 fun a110 r111 =>
        asB a110 fun b112 =>
        some (.ret, [.s (.bool b112)], m106))
      (fun d109 vs107 m108 =>
        none))
    else
    (some (.exit 0, [.s s0, .s s5], m30)))
  (fun vs113 m114 =>
    headK vs113 fun a118 r119 =>
    asB a118 fun b120 =>
    some (.ret, [.s (.bool b120)], m114))
  (fun d117 vs115 m116 =>
    none) := by rw [← G6_10, ← G6_27, ← G6_28, ← G6_22, ← G6_29, ← G6_24, ← G6_30, ← G6_31]; kernel_rfl
theorem overdublaw01_BitsReads_L1_eq (os vs : List AV) (μ : AMem) : overdublaw01_BitsReads_L1 os vs μ = (overdublaw01_BitsReads_L1_B os vs μ).bind fun r => match r.1 with | .normal => overdublaw01_BitsReads_L1 os r.2.1 r.2.2 | _ => some r := loopA_eq _ _ _
theorem overdublaw01_BitsReads_eq (p0 : SV) (p1 : SV) (μ : AMem) : overdublaw01_BitsReads [.s p0, .s p1] μ =
  (overdubkeep_Cut_byte [.s p0, .s (.int .i64 60)] μ).bind fun r1 =>
  asS r1.1 fun x2 =>
  (overdubkeep_Lend [.s x2] r1.2).bind fun r3 =>
  asS r3.1 fun x4 =>
  (bits_NewReader [.s x4] r3.2).bind fun r5 =>
  asS r5.1 fun x6 =>
  (isNil (.s x6)).bind fun b7 =>
  bif b7 then
  (some (.s (.bool false), r5.2))
  else
  ((overdubref01_Of [.s x2] r5.2).bind fun r8 =>
    asS r8.1 fun x9 =>
    seqJ (overdublaw01_BitsReads_L1 [.s x2, .s p1, .s x4, .s x6] [.s x9, .s (.int .i64 0)] r8.2)
    (fun _ _ => none)
    (fun vs10 m11 =>
      headK vs10 fun a15 r16 =>
      asB a15 fun b17 =>
      some (.s (.bool b17), m11))
    (fun d14 vs12 m13 =>
      bif Nat.beq 0 d14 then (headK vs12 fun a18 r19 =>
        asS a18 fun x20 =>
        headK r19 fun a21 r22 =>
        asS a21 fun x23 =>
        (overdubkeep_Intact [.s x23, .s x20] m13).bind fun r24 =>
        asB r24.1 fun b25 =>
        bif b25 then
        ((overdublaw01_wakes [] r24.2).bind fun r26 =>
          asB r26.1 fun b27 =>
          some (.s (.bool b27), r26.2))
        else
        (some (.s (.bool false), r24.2))) else (none))) := by rw [← G6_23, ← G6_25, ← G6_21, ← G6_26, ← G6_32, ← G6_20]; kernel_rfl

/-! ### overdub/overdublaw01.BitsOnes -/
noncomputable def G7 : FuncId → FunA := fun g => bif Nat.beq g 10 then overdubkeep_Within else bif Nat.beq g 9 then bits_NewWriter else bif Nat.beq g 12 then bits_Writer_Ones else bif Nat.beq g 14 then bits_Writer_Put else bif Nat.beq g 16 then bits_Writer_Bytes else bif Nat.beq g 21 then bits_NewReader else bif Nat.beq g 27 then bits_Reader_Ones else bif Nat.beq g 22 then bits_Reader_Get else bif Nat.beq g 24 then bits_Reader_Left else bif Nat.beq g 20 then overdublaw01_wakes else fun _ _ => none
theorem G7_10 : G7 10 = overdubkeep_Within := by kernel_rfl
theorem G7_9 : G7 9 = bits_NewWriter := by kernel_rfl
theorem G7_12 : G7 12 = bits_Writer_Ones := by kernel_rfl
theorem G7_14 : G7 14 = bits_Writer_Put := by kernel_rfl
theorem G7_16 : G7 16 = bits_Writer_Bytes := by kernel_rfl
theorem G7_21 : G7 21 = bits_NewReader := by kernel_rfl
theorem G7_27 : G7 27 = bits_Reader_Ones := by kernel_rfl
theorem G7_22 : G7 22 = bits_Reader_Get := by kernel_rfl
theorem G7_24 : G7 24 = bits_Reader_Left := by kernel_rfl
theorem G7_20 : G7 20 = overdublaw01_wakes := by kernel_rfl
def A7 : Ann := .two (.leaf) (.two (.leaf) (.two (.leaf) (.two (.join [(29, .b)] [0, 1, 5] [] (.leaf) (.two (.two (.leaf) (.leaf)) (.leaf))) (.two (.leaf) (.two (.two (.leaf) (.two (.two (.leaf) (.leaf)) (.leaf))) (.two (.leaf) (.two (.join [(49, .b)] [0, 1, 6, 7] [] (.leaf) (.two (.two (.leaf) (.leaf)) (.leaf))) (.two (.leaf) (.two (.two (.leaf) (.two (.two (.leaf) (.two (.leaf) (.two (.leaf) (.leaf)))) (.leaf))) (.two (.leaf) (.leaf)))))))))))
def R7 : Slots := [(4, .b)]
noncomputable def overdublaw01_BitsOnes : FunA := denF Try.prog G7 Try.f7 A7 R7
theorem overdublaw01_BitsOnes_eq (p0 : Int) (p1 : Int) (μ : AMem) : overdublaw01_BitsOnes [.s (.int .i64 p0), .s (.int .i64 p1)] μ =
  (overdubkeep_Within [.s (.int .i64 p0), .s (.int .i64 60)] μ).bind fun r1 =>
  asI .i64 r1.1 fun n2 =>
  (overdubkeep_Within [.s (.int .i64 p1), .s (.int .i64 70)] r1.2).bind fun r3 =>
  asI .i64 r3.1 fun n4 =>
  (bits_NewWriter [] r3.2).bind fun r5 =>
  asS r5.1 fun x6 =>
  seqJ
  ((isNil (.s x6)).bind fun b7 =>
    bif !b7 then
    ((bits_Writer_Ones [.s x6, .s (.int .i64 n2)] r5.2).bind fun r8 =>
      asB r8.1 fun b9 =>
      bif !(!b9) then
      ((bits_Writer_Put [.s x6, .s (.int .i64 1), .s (.int .i64 1)] r8.2).bind fun r10 =>
        asB r10.1 fun b11 =>
        some (.normal, [.s (.bool (!b11))], r10.2))
      else
      (some (.normal, [.s (.bool true)], r8.2)))
    else
    (some (.normal, [.s (.bool true)], r5.2)))
  (fun vs12 m13 =>
    headK vs12 fun a14 r15 =>
    asB a14 fun b16 =>
    bif b16 then
    (some (.s (.bool false), m13))
    else
    ((bits_Writer_Bytes [.s x6] m13).bind fun r17 =>
      asS r17.1 fun x18 =>
      (bits_NewReader [.s x18] r17.2).bind fun r19 =>
      asS r19.1 fun x20 =>
      (isNil (.s x20)).bind fun b21 =>
      bif b21 then
      (some (.s (.bool false), r19.2))
      else
      ((bits_Reader_Ones [.s x20, .s (.int .i64 n4)] r19.2).bind fun r22 =>
        extrK 0 r22.1 fun t23 =>
        asI .i64 t23 fun n24 =>
        extrK 1 r22.1 fun t25 =>
        asB t25 fun b26 =>
        seqJ
        (bif !(!b26) then
          (some (.normal, [.s (.bool (n24 != (if n4 < n2 then n4 else n2)))], r22.2))
          else
          (some (.normal, [.s (.bool true)], r22.2)))
        (fun vs27 m28 =>
          headK vs27 fun a29 r30 =>
          asB a29 fun b31 =>
          bif b31 then
          (some (.s (.bool false), m28))
          else
          (bif decide (n4 > n2) then
            ((bits_Reader_Get [.s x20, .s (.int .i64 1)] m28).bind fun r32 =>
              extrK 0 r32.1 fun t33 =>
              asI .i64 t33 fun n34 =>
              extrK 1 r32.1 fun t35 =>
              asB t35 fun b36 =>
              bif b36 then
              (bif (n34 == 1) then
                ((bits_Reader_Left [.s x20] r32.2).bind fun r37 =>
                  asI .i64 r37.1 fun n38 =>
                  bif (n38 == (IntKind.wrap .i64 ((IntKind.wrap .i64 ((IntKind.wrap .i64 ((IntKind.wrap .i64 ((IntKind.wrap .i64 (Int.tdiv (IntKind.wrap .i64 ((IntKind.wrap .i64 (n2 + 2)) + 7)) 8)) * 8)) - n24)) - 1)) - 1))) then
                  ((overdublaw01_wakes [] r37.2).bind fun r39 =>
                    asB r39.1 fun b40 =>
                    some (.s (.bool b40), r39.2))
                  else
                  (some (.s (.bool false), r37.2)))
                else
                (some (.s (.bool false), r32.2)))
              else
              (some (.s (.bool false), r32.2)))
            else
            ((bits_Reader_Left [.s x20] m28).bind fun r41 =>
              asI .i64 r41.1 fun n42 =>
              bif (n42 == (IntKind.wrap .i64 ((IntKind.wrap .i64 ((IntKind.wrap .i64 (Int.tdiv (IntKind.wrap .i64 ((IntKind.wrap .i64 (n2 + 2)) + 7)) 8)) * 8)) - n24))) then
              ((overdublaw01_wakes [] r41.2).bind fun r43 =>
                asB r43.1 fun b44 =>
                some (.s (.bool b44), r43.2))
              else
              (some (.s (.bool false), r41.2)))))
        (fun vs45 m46 =>
          headK vs45 fun a50 r51 =>
          asB a50 fun b52 =>
          some (.s (.bool b52), m46))
        (fun d49 vs47 m48 =>
          none))))
  (fun vs53 m54 =>
    headK vs53 fun a58 r59 =>
    asB a58 fun b60 =>
    some (.s (.bool b60), m54))
  (fun d57 vs55 m56 =>
    none) := by rw [← G7_10, ← G7_9, ← G7_12, ← G7_14, ← G7_16, ← G7_21, ← G7_27, ← G7_22, ← G7_24, ← G7_20]; kernel_rfl

/-! ### overdub/overdublaw01.BitsBack -/
noncomputable def G8 : FuncId → FunA := fun g => bif Nat.beq g 9 then bits_NewWriter else bif Nat.beq g 10 then overdubkeep_Within else bif Nat.beq g 12 then bits_Writer_Ones else bif Nat.beq g 14 then bits_Writer_Put else bif Nat.beq g 15 then bits_Writer_Len else bif Nat.beq g 16 then bits_Writer_Bytes else bif Nat.beq g 21 then bits_NewReader else bif Nat.beq g 24 then bits_Reader_Left else bif Nat.beq g 27 then bits_Reader_Ones else bif Nat.beq g 22 then bits_Reader_Get else bif Nat.beq g 30 then bits_Reader_Rest else bif Nat.beq g 20 then overdublaw01_wakes else fun _ _ => none
theorem G8_9 : G8 9 = bits_NewWriter := by kernel_rfl
theorem G8_10 : G8 10 = overdubkeep_Within := by kernel_rfl
theorem G8_12 : G8 12 = bits_Writer_Ones := by kernel_rfl
theorem G8_14 : G8 14 = bits_Writer_Put := by kernel_rfl
theorem G8_15 : G8 15 = bits_Writer_Len := by kernel_rfl
theorem G8_16 : G8 16 = bits_Writer_Bytes := by kernel_rfl
theorem G8_21 : G8 21 = bits_NewReader := by kernel_rfl
theorem G8_24 : G8 24 = bits_Reader_Left := by kernel_rfl
theorem G8_27 : G8 27 = bits_Reader_Ones := by kernel_rfl
theorem G8_22 : G8 22 = bits_Reader_Get := by kernel_rfl
theorem G8_30 : G8 30 = bits_Reader_Rest := by kernel_rfl
theorem G8_20 : G8 20 = overdublaw01_wakes := by kernel_rfl
def A8 : Ann := .two (.leaf) (.two (.leaf) (.two (.two (.leaf) (.two (.two (.leaf) (.leaf)) (.leaf))) (.two (.leaf) (.two (.two (.leaf) (.join [(0, .s), (3, .s), (4, .i .i64)] [] [] (.loop [(4, .i .i64), (5, .i .i64)] [0, 3] [0] (.two (.join [(25, .b)] [0, 3, 4, 5] [] (.leaf) (.two (.leaf) (.leaf))) (.two (.join [(0, .s), (3, .s), (4, .i .i64), (5, .i .i64)] [] [] (.two (.leaf) (.two (.leaf) (.join [(4, .i .i64), (7, .b)] [0, 3, 5] [] (.two (.leaf) (.two (.two (.leaf) (.leaf)) (.two (.leaf) (.leaf)))) (.join [(70, .b)] [0, 3, 4, 5] [] (.leaf) (.two (.two (.leaf) (.leaf)) (.leaf)))))) .leaf) (.leaf)))) .leaf)) (.two (.leaf) (.two (.join [(84, .b)] [0, 4, 8] [] (.leaf) (.two (.two (.leaf) (.leaf)) (.leaf))) (.two (.two (.leaf) (.join [(4, .i .i64), (8, .s)] [] [] (.loop [(9, .i .i64)] [0, 4, 8] [2] (.two (.join [(92, .b)] [0, 4, 8, 9] [] (.leaf) (.two (.leaf) (.leaf))) (.join [] [0, 4, 8, 9] [] (.join [(0, .s), (4, .i .i64), (8, .s), (9, .i .i64)] [] [] (.two (.leaf) (.two (.leaf) (.two (.two (.leaf) (.join [(121, .b)] [0, 4, 8, 9] [] (.leaf) (.two (.two (.leaf) (.leaf)) (.leaf)))) (.two (.leaf) (.join [(142, .b)] [0, 4, 8, 9] [] (.leaf) (.two (.two (.leaf) (.leaf)) (.leaf))))))) .leaf) (.leaf)))) .leaf)) (.two (.leaf) (.leaf)))))))))
def R8 : Slots := [(2, .b)]
noncomputable def overdublaw01_BitsBack : FunA := denF Try.prog G8 Try.f8 A8 R8
noncomputable def overdublaw01_BitsBack_L2_B (os vs : List AV) (μ : AMem) : Option Res := joinK [(9, .i .i64)] vs (envO [0, 4, 8] os) fun e => den Try.prog G8 Try.f8.ntmps (cL (cL (cR (cL (cR (cR (cR (cR (cR (cR (cR (bodyOf Try.f8)))))))))))) (aL (aL (aR (aL (aR (aR (aR (aR (aR (aR (aR A8))))))))))) { ret := R8, exits := [(2, [(4, .i .i64), (8, .s)])] } Res e μ fun ex e μ => some (ex, valsOf (Lv.at { ret := R8, exits := [(2, [(4, .i .i64), (8, .s)])] } [(9, .i .i64)] ex) e, μ)
noncomputable def overdublaw01_BitsBack_L2 (os vs : List AV) (μ : AMem) : Option Res := loopA (overdublaw01_BitsBack_L2_B os) vs μ
noncomputable def overdublaw01_BitsBack_L1_B (os vs : List AV) (μ : AMem) : Option Res := joinK [(4, .i .i64), (5, .i .i64)] vs (envO [0, 3] os) fun e => den Try.prog G8 Try.f8.ntmps (cL (cL (cR (cL (cR (cR (cR (cR (bodyOf Try.f8))))))))) (aL (aL (aR (aL (aR (aR (aR (aR A8)))))))) { ret := R8, exits := [(0, [(0, .s), (3, .s), (4, .i .i64)])] } Res e μ fun ex e μ => some (ex, valsOf (Lv.at { ret := R8, exits := [(0, [(0, .s), (3, .s), (4, .i .i64)])] } [(4, .i .i64), (5, .i .i64)] ex) e, μ)
noncomputable def overdublaw01_BitsBack_L1 (os vs : List AV) (μ : AMem) : Option Res := loopA (overdublaw01_BitsBack_L1_B os) vs μ
theorem overdublaw01_BitsBack_L2_B_eq (s0 : SV) (s4 : Int) (s8 : SV) (s9 : Int) (μ : AMem) : overdublaw01_BitsBack_L2_B [.s s0, .s (.int .i64 s4), .s s8] [.s (.int .i64 s9)] μ =
  seqJ
  ((lenS (.s s0)).bind fun l128 =>
    bif decide (s9 < ((l128 : Nat) : Int)) then
    (some (.normal, [.s (.bool (decide (s9 < 30)))], μ))
    else
    (some (.normal, [.s (.bool false)], μ)))
  (fun vs129 m130 =>
    headK vs129 fun a131 r132 =>
    asB a131 fun b133 =>
    bif b133 then
    (seqJ
      (indS 3 (.s s0) s9 fun p134 =>
        ptrAdd 2 p134 fun p135 =>
        loadAt m130 p135 fun v136 =>
        asI .i64 v136 fun n137 =>
        (overdubkeep_Within [.s (.int .i64 n137), .s (.int .i64 40)] m130).bind fun r138 =>
        asI .i64 r138.1 fun n139 =>
        indS 3 (.s s0) s9 fun p140 =>
        ptrAdd 0 p140 fun p141 =>
        loadAt r138.2 p141 fun v142 =>
        asI .i64 v142 fun n143 =>
        (overdubkeep_Within [.s (.int .i64 n143), .s (.int .i64 3)] r138.2).bind fun r144 =>
        asI .i64 r144.1 fun n145 =>
        bif (n145 == 2) then
        ((bits_Reader_Ones [.s s8, .s (.int .i64 (IntKind.wrap .i64 (n139 + 1)))] r144.2).bind fun r146 =>
          extrK 0 r146.1 fun t147 =>
          asI .i64 t147 fun n148 =>
          extrK 1 r146.1 fun t149 =>
          asB t149 fun b150 =>
          seqJ
          (bif !(!b150) then
            (some (.normal, [.s (.bool (n148 != n139))], r146.2))
            else
            (some (.normal, [.s (.bool true)], r146.2)))
          (fun vs151 m152 =>
            headK vs151 fun a153 r154 =>
            asB a153 fun b155 =>
            bif b155 then
            (some (.ret, [.s (.bool false)], m152))
            else
            (some (.normal, [], m152)))
          (fun vs156 m157 =>
            headK vs156 fun a161 r162 =>
            asB a161 fun b163 =>
            some (.ret, [.s (.bool b163)], m157))
          (fun d160 vs158 m159 =>
            none))
        else
        ((bits_Reader_Get [.s s8, .s (.int .i64 n139)] r144.2).bind fun r164 =>
          extrK 0 r164.1 fun t165 =>
          asI .i64 t165 fun n166 =>
          extrK 1 r164.1 fun t167 =>
          asB t167 fun b168 =>
          seqJ
          (bif !(!b168) then
            (indS 3 (.s s0) s9 fun p169 =>
              ptrAdd 1 p169 fun p170 =>
              loadAt r164.2 p170 fun v171 =>
              asI .i64 v171 fun n172 =>
              if (IntKind.wrap .u64 n139) < 0 then none else
              ((overdubkeep_Within [.s (.int .i64 n172), .s (.int .i64 (IntKind.wrap .i64 (1 * 2 ^ (min (Int.toNat (IntKind.wrap .u64 n139)) (IntKind.bits .i64)))))] r164.2).bind fun r173 =>
                asI .i64 r173.1 fun n174 =>
                some (.normal, [.s (.bool (n166 != n174))], r173.2)))
            else
            (some (.normal, [.s (.bool true)], r164.2)))
          (fun vs175 m176 =>
            headK vs175 fun a177 r178 =>
            asB a177 fun b179 =>
            bif b179 then
            (some (.ret, [.s (.bool false)], m176))
            else
            (some (.normal, [], m176)))
          (fun vs180 m181 =>
            headK vs180 fun a185 r186 =>
            asB a185 fun b187 =>
            some (.ret, [.s (.bool b187)], m181))
          (fun d184 vs182 m183 =>
            none)))
      (fun vs188 m189 =>
        some (.normal, [.s (.int .i64 (IntKind.wrap .i64 (s9 + 1)))], m189))
      (fun vs190 m191 =>
        headK vs190 fun a195 r196 =>
        asB a195 fun b197 =>
        some (.ret, [.s (.bool b197)], m191))
      (fun d194 vs192 m193 =>
        none))
    else
    (some (.exit 2, [.s (.int .i64 s4), .s s8], m130)))
  (fun vs198 m199 =>
    headK vs198 fun a203 r204 =>
    asB a203 fun b205 =>
    some (.ret, [.s (.bool b205)], m199))
  (fun d202 vs200 m201 =>
    none) := by rw [← G8_10, ← G8_27, ← G8_22]; kernel_rfl
theorem overdublaw01_BitsBack_L2_eq (os vs : List AV) (μ : AMem) : overdublaw01_BitsBack_L2 os vs μ = (overdublaw01_BitsBack_L2_B os vs μ).bind fun r => match r.1 with | .normal => overdublaw01_BitsBack_L2 os r.2.1 r.2.2 | _ => some r := loopA_eq _ _ _
theorem overdublaw01_BitsBack_L1_B_eq (s0 : SV) (s3 : SV) (s4 : Int) (s5 : Int) (μ : AMem) : overdublaw01_BitsBack_L1_B [.s s0, .s s3] [.s (.int .i64 s4), .s (.int .i64 s5)] μ =
  seqJ
  ((lenS (.s s0)).bind fun l61 =>
    bif decide (s5 < ((l61 : Nat) : Int)) then
    (some (.normal, [.s (.bool (decide (s5 < 30)))], μ))
    else
    (some (.normal, [.s (.bool false)], μ)))
  (fun vs62 m63 =>
    headK vs62 fun a64 r65 =>
    asB a64 fun b66 =>
    bif b66 then
    (indS 3 (.s s0) s5 fun p67 =>
      ptrAdd 2 p67 fun p68 =>
      loadAt m63 p68 fun v69 =>
      asI .i64 v69 fun n70 =>
      (overdubkeep_Within [.s (.int .i64 n70), .s (.int .i64 40)] m63).bind fun r71 =>
      asI .i64 r71.1 fun n72 =>
      seqJ
      (indS 3 (.s s0) s5 fun p73 =>
        ptrAdd 0 p73 fun p74 =>
        loadAt r71.2 p74 fun v75 =>
        asI .i64 v75 fun n76 =>
        (overdubkeep_Within [.s (.int .i64 n76), .s (.int .i64 3)] r71.2).bind fun r77 =>
        asI .i64 r77.1 fun n78 =>
        bif (n78 == 2) then
        ((bits_Writer_Ones [.s s3, .s (.int .i64 n72)] r77.2).bind fun r79 =>
          asB r79.1 fun b80 =>
          some (.normal, [.s (.int .i64 (IntKind.wrap .i64 (s4 + (IntKind.wrap .i64 (n72 + 1))))), .s (.bool b80)], r79.2))
        else
        (indS 3 (.s s0) s5 fun p81 =>
          ptrAdd 1 p81 fun p82 =>
          loadAt r77.2 p82 fun v83 =>
          asI .i64 v83 fun n84 =>
          if (IntKind.wrap .u64 n72) < 0 then none else
          ((overdubkeep_Within [.s (.int .i64 n84), .s (.int .i64 (IntKind.wrap .i64 (1 * 2 ^ (min (Int.toNat (IntKind.wrap .u64 n72)) (IntKind.bits .i64)))))] r77.2).bind fun r85 =>
            asI .i64 r85.1 fun n86 =>
            (bits_Writer_Put [.s s3, .s (.int .i64 n86), .s (.int .i64 n72)] r85.2).bind fun r87 =>
            asB r87.1 fun b88 =>
            some (.normal, [.s (.int .i64 (IntKind.wrap .i64 (s4 + n72))), .s (.bool b88)], r87.2))))
      (fun vs89 m90 =>
        headK vs89 fun a91 r92 =>
        asI .i64 a91 fun n93 =>
        headK r92 fun a94 r95 =>
        asB a94 fun b96 =>
        seqJ
        (bif !(!b96) then
          ((bits_Writer_Len [.s s3] m90).bind fun r97 =>
            asI .i64 r97.1 fun n98 =>
            some (.normal, [.s (.bool (n98 != n93))], r97.2))
          else
          (some (.normal, [.s (.bool true)], m90)))
        (fun vs99 m100 =>
          headK vs99 fun a101 r102 =>
          asB a101 fun b103 =>
          bif b103 then
          (some (.ret, [.s (.bool false)], m100))
          else
          (some (.normal, [.s (.int .i64 n93), .s (.int .i64 (IntKind.wrap .i64 (s5 + 1)))], m100)))
        (fun vs104 m105 =>
          headK vs104 fun a109 r110 =>
          asB a109 fun b111 =>
          some (.ret, [.s (.bool b111)], m105))
        (fun d108 vs106 m107 =>
          none))
      (fun vs112 m113 =>
        headK vs112 fun a117 r118 =>
        asB a117 fun b119 =>
        some (.ret, [.s (.bool b119)], m113))
      (fun d116 vs114 m115 =>
        none))
    else
    (some (.exit 0, [.s s0, .s s3, .s (.int .i64 s4)], m63)))
  (fun vs120 m121 =>
    headK vs120 fun a125 r126 =>
    asB a125 fun b127 =>
    some (.ret, [.s (.bool b127)], m121))
  (fun d124 vs122 m123 =>
    none) := by rw [← G8_10, ← G8_12, ← G8_14, ← G8_15]; kernel_rfl
theorem overdublaw01_BitsBack_L1_eq (os vs : List AV) (μ : AMem) : overdublaw01_BitsBack_L1 os vs μ = (overdublaw01_BitsBack_L1_B os vs μ).bind fun r => match r.1 with | .normal => overdublaw01_BitsBack_L1 os r.2.1 r.2.2 | _ => some r := loopA_eq _ _ _
theorem overdublaw01_BitsBack_eq (p0 : SV) (μ : AMem) : overdublaw01_BitsBack [.s p0] μ =
  (bits_NewWriter [] μ).bind fun r1 =>
  asS r1.1 fun x2 =>
  (isNil (.s x2)).bind fun b3 =>
  bif b3 then
  (some (.s (.bool false), r1.2))
  else
  (seqJ (overdublaw01_BitsBack_L1 [.s p0, .s x2] [.s (.int .i64 0), .s (.int .i64 0)] r1.2)
    (fun _ _ => none)
    (fun vs4 m5 =>
      headK vs4 fun a9 r10 =>
      asB a9 fun b11 =>
      some (.s (.bool b11), m5))
    (fun d8 vs6 m7 =>
      bif Nat.beq 0 d8 then (headK vs6 fun a12 r13 =>
        asS a12 fun x14 =>
        headK r13 fun a15 r16 =>
        asS a15 fun x17 =>
        headK r16 fun a18 r19 =>
        asI .i64 a18 fun n20 =>
        (bits_Writer_Bytes [.s x17] m7).bind fun r21 =>
        asS r21.1 fun x22 =>
        (bits_NewReader [.s x22] r21.2).bind fun r23 =>
        asS r23.1 fun x24 =>
        seqJ
        ((isNil (.s x24)).bind fun b25 =>
          bif !b25 then
          ((bits_Reader_Left [.s x24] r23.2).bind fun r26 =>
            asI .i64 r26.1 fun n27 =>
            some (.normal, [.s (.bool (n27 != (IntKind.wrap .i64 ((IntKind.wrap .i64 (Int.tdiv (IntKind.wrap .i64 (n20 + 7)) 8)) * 8))))], r26.2))
          else
          (some (.normal, [.s (.bool true)], r23.2)))
        (fun vs28 m29 =>
          headK vs28 fun a30 r31 =>
          asB a30 fun b32 =>
          bif b32 then
          (some (.s (.bool false), m29))
          else
          (seqJ (overdublaw01_BitsBack_L2 [.s x14, .s (.int .i64 n20), .s x24] [.s (.int .i64 0)] m29)
            (fun _ _ => none)
            (fun vs33 m34 =>
              headK vs33 fun a38 r39 =>
              asB a38 fun b40 =>
              some (.s (.bool b40), m34))
            (fun d37 vs35 m36 =>
              bif Nat.beq 2 d37 then (headK vs35 fun a41 r42 =>
                asI .i64 a41 fun n43 =>
                headK r42 fun a44 r45 =>
                asS a44 fun x46 =>
                (bits_Reader_Rest [.s x46] m36).bind fun r47 =>
                asB r47.1 fun b48 =>
                bif b48 then
                ((bits_Reader_Left [.s x46] r47.2).bind fun r49 =>
                  asI .i64 r49.1 fun n50 =>
                  bif (n50 == (Int.tmod (IntKind.wrap .i64 (8 - (Int.tmod n43 8))) 8)) then
                  ((overdublaw01_wakes [] r49.2).bind fun r51 =>
                    asB r51.1 fun b52 =>
                    some (.s (.bool b52), r51.2))
                  else
                  (some (.s (.bool false), r49.2)))
                else
                (some (.s (.bool false), r47.2))) else (none))))
        (fun vs53 m54 =>
          headK vs53 fun a58 r59 =>
          asB a58 fun b60 =>
          some (.s (.bool b60), m54))
        (fun d57 vs55 m56 =>
          none)) else (none))) := by rw [← G8_9, ← G8_16, ← G8_21, ← G8_24, ← G8_30, ← G8_20]; kernel_rfl

end Go.Proofs.Ytkbecppafippeaa
