/- The Go functions as plain functions over abstract memory, and what each comes to. -/
import Derived.Test.YtbknenfbdhginaaProg
import Derived.KernelRfl
import Derived.Test.YtbknenfbdhginaaE0
namespace Go.Proofs.Ytbknenfbdhginaa
open Go Go.Proofs.Ytbknenfbdhginaa.E
set_option maxRecDepth 100000
set_option linter.unusedVariables false
/-! ### overdub/overdubkeep.Within -/
noncomputable def G10 : FuncId → FunA := fun _ _ _ => none
def A10 : Ann := .two (.leaf) (.two (.two (.leaf) (.two (.two (.leaf) (.leaf)) (.leaf))) (.two (.leaf) (.join [(5, .i .i64)] [] [] (.two (.leaf) (.two (.leaf) (.leaf))) (.two (.leaf) (.leaf)))))
def R10 : Slots := [(4, .i .i64)]
noncomputable def overdubkeep_Within : FunA := denF Try.prog G10 Try.f10 A10 R10
theorem overdubkeep_Within_eq (p0 : Int) (p1 : Int) (μ : AMem) : overdubkeep_Within [.s (.int .i64 p0), .s (.int .i64 p1)] μ =
  bif decide (p1 < 1) then
  (some (.s (.int .i64 0), μ))
  else
  (if p1 = 0 then none else
    (seqJ
      (bif decide ((Int.tmod p0 p1) < 0) then
        (some (.normal, [.s (.int .i64 (IntKind.wrap .i64 ((Int.tmod p0 p1) + p1)))], μ))
        else
        (some (.normal, [.s (.int .i64 (Int.tmod p0 p1))], μ)))
      (fun vs1 m2 =>
        headK vs1 fun a3 r4 =>
        asI .i64 a3 fun n5 =>
        some (.s (.int .i64 n5), m2))
      (fun vs6 m7 =>
        headK vs6 fun a11 r12 =>
        asI .i64 a11 fun n13 =>
        some (.s (.int .i64 n13), m7))
      (fun d10 vs8 m9 =>
        none))) := by kernel_rfl

/-! ### overdub/lpc.coef -/
noncomputable def G25 : FuncId → FunA := fun _ _ _ => none
def A25 : Ann := .two (.leaf) (.two (.leaf) (.leaf))
def R25 : Slots := [(2, .b)]
noncomputable def lpc_coef : FunA := denF Try.prog G25 Try.f25 A25 R25
theorem lpc_coef_eq (p0 : Int) (μ : AMem) : lpc_coef [.s (.int .i64 p0)] μ =
  bif decide (p0 ≥ (-32768)) then
  (some (.s (.bool (decide (p0 ≤ 32767))), μ))
  else
  (some (.s (.bool false), μ)) := by kernel_rfl

/-! ### overdub/lpc.cut -/
noncomputable def G26 : FuncId → FunA := fun _ _ _ => none
def A26 : Ann := .two (.leaf) (.two (.join [(8, .b)] [0] [] (.leaf) (.two (.two (.leaf) (.leaf)) (.leaf))) (.two (.leaf) (.leaf)))
def R26 : Slots := [(2, .i .i64)]
noncomputable def lpc_cut : FunA := denF Try.prog G26 Try.f26 A26 R26
theorem lpc_cut_eq (p0 : Int) (μ : AMem) : lpc_cut [.s (.int .i64 p0)] μ =
  seqJ
  (bif !(decide (p0 < (-16777216))) then
    (some (.normal, [.s (.bool (decide (p0 > 16777216)))], μ))
    else
    (some (.normal, [.s (.bool true)], μ)))
  (fun vs1 m2 =>
    headK vs1 fun a3 r4 =>
    asB a3 fun b5 =>
    bif b5 then
    (some (.s (.int .i64 0), m2))
    else
    (some (.s (.int .i64 p0), m2)))
  (fun vs6 m7 =>
    headK vs6 fun a11 r12 =>
    asI .i64 a11 fun n13 =>
    some (.s (.int .i64 n13), m7))
  (fun d10 vs8 m9 =>
    none) := by kernel_rfl

/-! ### overdub/lpc.Guess -/
noncomputable def G11 : FuncId → FunA := fun g => bif Nat.beq g 25 then lpc_coef else bif Nat.beq g 26 then lpc_cut else fun _ _ => none
theorem G11_25 : G11 25 = lpc_coef := by kernel_rfl
theorem G11_26 : G11 26 = lpc_cut := by kernel_rfl
def A11 : Ann := .two (.leaf) (.two (.leaf) (.two (.two (.leaf) (.join [(5, .i .i64)] [] [] (.loop [(5, .i .i64), (12, .i .i64)] [0, 1, 11] [0] (.two (.leaf) (.two (.two (.leaf) (.leaf)) (.join [(5, .i .i64)] [0, 1, 11, 12] [] (.join [(0, .s), (1, .s), (5, .i .i64), (11, .i .i64), (12, .i .i64)] [] [] (.two (.leaf) (.two (.leaf) (.two (.ord [0, 1, 2, 3, 4, 5, 6, 7, 8, 9, 10, 11, 12, 13, 14, 15, 16]) (.leaf)))) .leaf) (.leaf))))) .leaf)) (.two (.leaf) (.leaf))))
def R11 : Slots := [(4, .i .i64)]
noncomputable def lpc_Guess : FunA := denF Try.prog G11 Try.f11 A11 R11
noncomputable def lpc_Guess_L1_B (os vs : List AV) (μ : AMem) : Option Res := joinK [(5, .i .i64), (12, .i .i64)] vs (envO [0, 1, 11] os) fun e => den Try.prog G11 Try.f11.ntmps (cL (cL (cR (cL (cR (cR (bodyOf Try.f11))))))) (aL (aL (aR (aL (aR (aR A11)))))) { ret := R11, exits := [(0, [(5, .i .i64)])] } Res e μ fun ex e μ => some (ex, valsOf (Lv.at { ret := R11, exits := [(0, [(5, .i .i64)])] } [(5, .i .i64), (12, .i .i64)] ex) e, μ)
noncomputable def lpc_Guess_L1 (os vs : List AV) (μ : AMem) : Option Res := loopA (lpc_Guess_L1_B os) vs μ
theorem lpc_Guess_L1_B_eq (s0 : SV) (s1 : SV) (s11 : Int) (s5 : Int) (s12 : Int) (μ : AMem) : lpc_Guess_L1_B [.s s0, .s s1, .s (.int .i64 s11)] [.s (.int .i64 s5), .s (.int .i64 s12)] μ =
  bif decide (s12 < s11) then
  (seqJ
    (indS 1 (.s s1) s12 fun p14 =>
      loadAt μ p14 fun v15 =>
      asI .i64 v15 fun n16 =>
      (lpc_coef [.s (.int .i64 n16)] μ).bind fun r17 =>
      asB r17.1 fun b18 =>
      bif b18 then
      (indS 1 (.s s1) s12 fun p19 =>
        loadAt r17.2 p19 fun v20 =>
        asI .i64 v20 fun n21 =>
        (lenS (.s s0)).bind fun l22 =>
        indS 1 (.s s0) (IntKind.wrap .i64 ((IntKind.wrap .i64 (((l22 : Nat) : Int) - 1)) - s12)) fun p23 =>
        loadAt r17.2 p23 fun v24 =>
        asI .i64 v24 fun n25 =>
        (lpc_cut [.s (.int .i64 n25)] r17.2).bind fun r26 =>
        asI .i64 r26.1 fun n27 =>
        checkA (loadAt r26.2 p19 some = some (.s (.int .i64 n21)))
        (some (.normal, [.s (.int .i64 (IntKind.wrap .i64 (s5 + (IntKind.wrap .i64 (n21 * n27)))))], r26.2)))
      else
      (some (.normal, [.s (.int .i64 s5)], r17.2)))
    (fun vs28 m29 =>
      headK vs28 fun a30 r31 =>
      asI .i64 a30 fun n32 =>
      some (.normal, [.s (.int .i64 n32), .s (.int .i64 (IntKind.wrap .i64 (s12 + 1)))], m29))
    (fun vs33 m34 =>
      headK vs33 fun a38 r39 =>
      asI .i64 a38 fun n40 =>
      some (.ret, [.s (.int .i64 n40)], m34))
    (fun d37 vs35 m36 =>
      none))
  else
  (some (.exit 0, [.s (.int .i64 s5)], μ)) := by rw [← G11_25, ← G11_26]; kernel_rfl
theorem lpc_Guess_L1_eq (os vs : List AV) (μ : AMem) : lpc_Guess_L1 os vs μ = (lpc_Guess_L1_B os vs μ).bind fun r => match r.1 with | .normal => lpc_Guess_L1 os r.2.1 r.2.2 | _ => some r := loopA_eq _ _ _
theorem lpc_Guess_eq (p0 : SV) (p1 : SV) (μ : AMem) : lpc_Guess [.s p0, .s p1] μ =
  (lenS (.s p0)).bind fun l1 =>
  (lenS (.s p1)).bind fun l2 =>
  seqJ (lpc_Guess_L1 [.s p0, .s p1, .s (.int .i64 (if 12 < (if ((l2 : Nat) : Int) < ((l1 : Nat) : Int) then ((l2 : Nat) : Int) else ((l1 : Nat) : Int)) then 12 else (if ((l2 : Nat) : Int) < ((l1 : Nat) : Int) then ((l2 : Nat) : Int) else ((l1 : Nat) : Int))))] [.s (.int .i64 0), .s (.int .i64 0)] μ)
  (fun _ _ => none)
  (fun vs3 m4 =>
    headK vs3 fun a8 r9 =>
    asI .i64 a8 fun n10 =>
    some (.s (.int .i64 n10), m4))
  (fun d7 vs5 m6 =>
    bif Nat.beq 0 d7 then (headK vs5 fun a11 r12 =>
      asI .i64 a11 fun n13 =>
      some (.s (.int .i64 (Int.fdiv n13 (2 ^ (12 : Nat)))), m6)) else (none)) := by kernel_rfl

/-! ### overdub/overdublaw06.wakes -/
noncomputable def G12 : FuncId → FunA := fun g => bif Nat.beq g 11 then lpc_Guess else fun _ _ => none
theorem G12_11 : G12 11 = lpc_Guess := by kernel_rfl
def A12 : Ann := .two (.leaf) (.two (.leaf) (.leaf))
def R12 : Slots := [(0, .b)]
noncomputable def overdublaw06_wakes : FunA := denF Try.prog G12 Try.f12 A12 R12
theorem overdublaw06_wakes_eq  (μ : AMem) : overdublaw06_wakes [] μ =
  (lpc_Guess [.s (.slice (μ.next + 0) 0 0 2), .s (.slice (μ.next + 1) 0 0 1)] (((μ.bump 5).set (μ.next + 0) (rowObj [.int .i64 10, .int .i64 20] 1 3 (some 2))).set (μ.next + 1) (rowObj [.int .i64 4096] 1 3 (some 1)))).bind fun r1 =>
  asI .i64 r1.1 fun n2 =>
  some (.s (.bool (n2 == 20)), r1.2) := by rw [← G12_11]; kernel_rfl

/-! ### overdub/overdublaw06.LpcOne -/
noncomputable def G3 : FuncId → FunA := fun g => bif Nat.beq g 10 then overdubkeep_Within else bif Nat.beq g 11 then lpc_Guess else bif Nat.beq g 12 then overdublaw06_wakes else fun _ _ => none
theorem G3_10 : G3 10 = overdubkeep_Within := by kernel_rfl
theorem G3_11 : G3 11 = lpc_Guess := by kernel_rfl
theorem G3_12 : G3 12 = overdublaw06_wakes := by kernel_rfl
def A3 : Ann := .two (.leaf) (.two (.leaf) (.two (.leaf) (.two (.leaf) (.leaf))))
def R3 : Slots := [(4, .b)]
noncomputable def overdublaw06_LpcOne : FunA := denF Try.prog G3 Try.f3 A3 R3
theorem overdublaw06_LpcOne_eq (p0 : Int) (p1 : Int) (μ : AMem) : overdublaw06_LpcOne [.s (.int .i64 p0), .s (.int .i64 p1)] μ =
  (overdubkeep_Within [.s (.int .i64 p0), .s (.int .i64 16777216)] μ).bind fun r1 =>
  asI .i64 r1.1 fun n2 =>
  (overdubkeep_Within [.s (.int .i64 p1), .s (.int .i64 65536)] r1.2).bind fun r3 =>
  asI .i64 r3.1 fun n4 =>
  (lpc_Guess [.s (.slice (r3.2.next + 1) 0 0 2), .s (.slice (r3.2.next + 3) 0 0 1)] (((r3.2.bump 6).set (r3.2.next + 1) (rowObj [.int .i64 99, .int .i64 (IntKind.wrap .i64 (n2 - 8388608))] 1 3 (some 2))).set (r3.2.next + 3) (rowObj [.int .i64 (IntKind.wrap .i64 (n4 - 32768))] 1 3 (some 1)))).bind fun r5 =>
  asI .i64 r5.1 fun n6 =>
  bif decide ((IntKind.wrap .i64 (4096 * n6)) ≤ (IntKind.wrap .i64 ((IntKind.wrap .i64 (n2 - 8388608)) * (IntKind.wrap .i64 (n4 - 32768))))) then
  (bif decide ((IntKind.wrap .i64 ((IntKind.wrap .i64 (n2 - 8388608)) * (IntKind.wrap .i64 (n4 - 32768)))) < (IntKind.wrap .i64 (4096 * (IntKind.wrap .i64 (n6 + 1))))) then
    ((overdublaw06_wakes [] r5.2).bind fun r7 =>
      asB r7.1 fun b8 =>
      some (.s (.bool b8), r7.2))
    else
    (some (.s (.bool false), r5.2)))
  else
  (some (.s (.bool false), r5.2)) := by rw [← G3_10, ← G3_11, ← G3_12]; kernel_rfl

/-! ### overdub/overdubkeep.Cut[int] -/
noncomputable def G13 : FuncId → FunA := fun _ _ _ => none
def A13 : Ann := .two (.leaf) (.two (.leaf) (.leaf))
def R13 : Slots := [(4, .s)]
noncomputable def overdubkeep_Cut_int : FunA := denF Try.prog G13 Try.f13 A13 R13
theorem overdubkeep_Cut_int_eq (p0 : SV) (p1 : Int) (μ : AMem) : overdubkeep_Cut_int [.s p0, .s (.int .i64 p1)] μ =
  (lenS (.s p0)).bind fun l1 =>
  cutS 1 (.s p0) 0 (if p1 < ((l1 : Nat) : Int) then p1 else ((l1 : Nat) : Int)) fun x2 =>
  some (x2, μ) := by kernel_rfl

/-! ### overdub/overdubref05.down -/
noncomputable def G27 : FuncId → FunA := fun _ _ _ => none
def A27 : Ann := .two (.leaf) (.two (.leaf) (.join [(5, .i .i64)] [] [] (.join [(16, .b)] [5] [] (.leaf) (.two (.leaf) (.leaf))) (.two (.leaf) (.leaf))))
def R27 : Slots := [(4, .i .i64)]
noncomputable def overdubref05_down : FunA := denF Try.prog G27 Try.f27 A27 R27
theorem overdubref05_down_eq (p0 : Int) (p1 : Int) (μ : AMem) : overdubref05_down [.s (.int .i64 p0), .s (.int .i64 p1)] μ =
  if p1 = 0 then none else
  (seqJ
    (seqJ
      (if p1 = 0 then none else
        (bif ((Int.tmod p0 p1) != 0) then
          (some (.normal, [.s (.bool (decide (p0 < 0)))], μ))
          else
          (some (.normal, [.s (.bool false)], μ))))
      (fun vs1 m2 =>
        headK vs1 fun a3 r4 =>
        asB a3 fun b5 =>
        bif b5 then
        (some (.normal, [.s (.int .i64 (IntKind.wrap .i64 ((IntKind.wrap .i64 (Int.tdiv p0 p1)) - 1)))], m2))
        else
        (some (.normal, [.s (.int .i64 (IntKind.wrap .i64 (Int.tdiv p0 p1)))], m2)))
      (fun vs6 m7 =>
        headK vs6 fun a11 r12 =>
        asI .i64 a11 fun n13 =>
        some (.ret, [.s (.int .i64 n13)], m7))
      (fun d10 vs8 m9 =>
        none))
    (fun vs14 m15 =>
      headK vs14 fun a16 r17 =>
      asI .i64 a16 fun n18 =>
      some (.s (.int .i64 n18), m15))
    (fun vs19 m20 =>
      headK vs19 fun a24 r25 =>
      asI .i64 a24 fun n26 =>
      some (.s (.int .i64 n26), m20))
    (fun d23 vs21 m22 =>
      none)) := by kernel_rfl

/-! ### overdub/overdubref05.Guess -/
noncomputable def G14 : FuncId → FunA := fun g => bif Nat.beq g 27 then overdubref05_down else fun _ _ => none
theorem G14_27 : G14 27 = overdubref05_down := by kernel_rfl
def A14 : Ann := .two (.leaf) (.two (.leaf) (.two (.two (.leaf) (.join [(5, .i .i64)] [] [] (.loop [(5, .i .i64), (6, .i .i64)] [0, 1] [0] (.two (.join [(22, .b)] [0, 1, 5, 6] [] (.leaf) (.two (.leaf) (.leaf))) (.join [(5, .i .i64)] [0, 1, 6] [] (.join [(0, .s), (1, .s), (5, .i .i64), (6, .i .i64)] [] [] (.two (.ord [0, 1, 2, 3, 4, 5, 6, 7, 8, 9, 10, 11, 12, 13]) (.two (.join [(50, .b)] [0, 1, 5, 6, 7, 8] [] (.leaf) (.two (.leaf) (.leaf))) (.leaf))) .leaf) (.leaf)))) .leaf)) (.two (.leaf) (.leaf))))
def R14 : Slots := [(4, .i .i64)]
noncomputable def overdubref05_Guess : FunA := denF Try.prog G14 Try.f14 A14 R14
noncomputable def overdubref05_Guess_L1_B (os vs : List AV) (μ : AMem) : Option Res := joinK [(5, .i .i64), (6, .i .i64)] vs (envO [0, 1] os) fun e => den Try.prog G14 Try.f14.ntmps (cL (cL (cR (cL (cR (cR (bodyOf Try.f14))))))) (aL (aL (aR (aL (aR (aR A14)))))) { ret := R14, exits := [(0, [(5, .i .i64)])] } Res e μ fun ex e μ => some (ex, valsOf (Lv.at { ret := R14, exits := [(0, [(5, .i .i64)])] } [(5, .i .i64), (6, .i .i64)] ex) e, μ)
noncomputable def overdubref05_Guess_L1 (os vs : List AV) (μ : AMem) : Option Res := loopA (overdubref05_Guess_L1_B os) vs μ
theorem overdubref05_Guess_L1_B_eq (s0 : SV) (s1 : SV) (s5 : Int) (s6 : Int) (μ : AMem) : overdubref05_Guess_L1_B [.s s0, .s s1] [.s (.int .i64 s5), .s (.int .i64 s6)] μ =
  seqJ
  ((lenS (.s s1)).bind fun l14 =>
    bif decide (s6 < ((l14 : Nat) : Int)) then
    ((lenS (.s s0)).bind fun l15 =>
      bif decide (s6 < ((l15 : Nat) : Int)) then
      (some (.normal, [.s (.bool (decide (s6 < 12)))], μ))
      else
      (some (.normal, [.s (.bool false)], μ)))
    else
    (some (.normal, [.s (.bool false)], μ)))
  (fun vs16 m17 =>
    headK vs16 fun a18 r19 =>
    asB a18 fun b20 =>
    bif b20 then
    (seqJ
      (indS 1 (.s s1) s6 fun p21 =>
        loadAt m17 p21 fun v22 =>
        asI .i64 v22 fun n23 =>
        (lenS (.s s0)).bind fun l24 =>
        indS 1 (.s s0) (IntKind.wrap .i64 ((IntKind.wrap .i64 (((l24 : Nat) : Int) - 1)) - s6)) fun p25 =>
        loadAt m17 p25 fun v26 =>
        asI .i64 v26 fun n27 =>
        seqJ
        (bif !(decide (n23 < (-32768))) then
          (bif !(decide (n23 > 32767)) then
            (bif !(decide (n27 < (-16777216))) then
              (some (.normal, [.s (.bool (decide (n27 > 16777216)))], m17))
              else
              (some (.normal, [.s (.bool true)], m17)))
            else
            (some (.normal, [.s (.bool true)], m17)))
          else
          (some (.normal, [.s (.bool true)], m17)))
        (fun vs28 m29 =>
          headK vs28 fun a30 r31 =>
          asB a30 fun b32 =>
          bif b32 then
          (some (.normal, [.s (.int .i64 s5)], m29))
          else
          (some (.normal, [.s (.int .i64 (IntKind.wrap .i64 (s5 + (IntKind.wrap .i64 (n23 * n27)))))], m29)))
        (fun vs33 m34 =>
          headK vs33 fun a38 r39 =>
          asI .i64 a38 fun n40 =>
          some (.ret, [.s (.int .i64 n40)], m34))
        (fun d37 vs35 m36 =>
          none))
      (fun vs41 m42 =>
        headK vs41 fun a43 r44 =>
        asI .i64 a43 fun n45 =>
        some (.normal, [.s (.int .i64 n45), .s (.int .i64 (IntKind.wrap .i64 (s6 + 1)))], m42))
      (fun vs46 m47 =>
        headK vs46 fun a51 r52 =>
        asI .i64 a51 fun n53 =>
        some (.ret, [.s (.int .i64 n53)], m47))
      (fun d50 vs48 m49 =>
        none))
    else
    (some (.exit 0, [.s (.int .i64 s5)], m17)))
  (fun vs54 m55 =>
    headK vs54 fun a59 r60 =>
    asI .i64 a59 fun n61 =>
    some (.ret, [.s (.int .i64 n61)], m55))
  (fun d58 vs56 m57 =>
    none) := by kernel_rfl
theorem overdubref05_Guess_L1_eq (os vs : List AV) (μ : AMem) : overdubref05_Guess_L1 os vs μ = (overdubref05_Guess_L1_B os vs μ).bind fun r => match r.1 with | .normal => overdubref05_Guess_L1 os r.2.1 r.2.2 | _ => some r := loopA_eq _ _ _
theorem overdubref05_Guess_eq (p0 : SV) (p1 : SV) (μ : AMem) : overdubref05_Guess [.s p0, .s p1] μ =
  seqJ (overdubref05_Guess_L1 [.s p0, .s p1] [.s (.int .i64 0), .s (.int .i64 0)] μ)
  (fun _ _ => none)
  (fun vs1 m2 =>
    headK vs1 fun a6 r7 =>
    asI .i64 a6 fun n8 =>
    some (.s (.int .i64 n8), m2))
  (fun d5 vs3 m4 =>
    bif Nat.beq 0 d5 then (headK vs3 fun a9 r10 =>
      asI .i64 a9 fun n11 =>
      (overdubref05_down [.s (.int .i64 n11), .s (.int .i64 4096)] m4).bind fun r12 =>
      asI .i64 r12.1 fun n13 =>
      some (.s (.int .i64 n13), r12.2)) else (none)) := by rw [← G14_27]; kernel_rfl

/-! ### overdub/overdublaw06.LpcGuesses -/
noncomputable def G4 : FuncId → FunA := fun g => bif Nat.beq g 13 then overdubkeep_Cut_int else bif Nat.beq g 11 then lpc_Guess else bif Nat.beq g 14 then overdubref05_Guess else bif Nat.beq g 12 then overdublaw06_wakes else fun _ _ => none
theorem G4_13 : G4 13 = overdubkeep_Cut_int := by kernel_rfl
theorem G4_11 : G4 11 = lpc_Guess := by kernel_rfl
theorem G4_14 : G4 14 = overdubref05_Guess := by kernel_rfl
theorem G4_12 : G4 12 = overdublaw06_wakes := by kernel_rfl
def A4 : Ann := .two (.leaf) (.two (.leaf) (.two (.leaf) (.leaf)))
def R4 : Slots := [(4, .b)]
noncomputable def overdublaw06_LpcGuesses : FunA := denF Try.prog G4 Try.f4 A4 R4
theorem overdublaw06_LpcGuesses_eq (p0 : SV) (p1 : SV) (μ : AMem) : overdublaw06_LpcGuesses [.s p0, .s p1] μ =
  (overdubkeep_Cut_int [.s p0, .s (.int .i64 30)] μ).bind fun r1 =>
  asS r1.1 fun x2 =>
  (overdubkeep_Cut_int [.s p1, .s (.int .i64 20)] r1.2).bind fun r3 =>
  asS r3.1 fun x4 =>
  (lpc_Guess [.s x2, .s x4] r3.2).bind fun r5 =>
  asI .i64 r5.1 fun n6 =>
  (overdubref05_Guess [.s x2, .s x4] r5.2).bind fun r7 =>
  asI .i64 r7.1 fun n8 =>
  bif (n6 == n8) then
  ((overdublaw06_wakes [] r7.2).bind fun r9 =>
    asB r9.1 fun b10 =>
    some (.s (.bool b10), r9.2))
  else
  (some (.s (.bool false), r7.2)) := by rw [← G4_13, ← G4_11, ← G4_14, ← G4_12]; kernel_rfl

/-! ### overdub/overdubkeep.Samples -/
noncomputable def G15 : FuncId → FunA := fun g => bif Nat.beq g 10 then overdubkeep_Within else fun _ _ => none
theorem G15_10 : G15 10 = overdubkeep_Within := by kernel_rfl
def A15 : Ann := .two (.leaf) (.two (.leaf) (.two (.two (.leaf) (.join [(7, .s)] [] [] (.loop [(7, .s), (8, .i .i64)] [0, 1, 2] [0] (.two (.join [(18, .b)] [0, 1, 2, 7, 8] [] (.leaf) (.two (.leaf) (.leaf))) (.two (.join [(0, .s), (1, .i .i64), (2, .b), (7, .s), (8, .i .i64)] [] [] (.two (.leaf) (.join [(9, .i .i64)] [0, 1, 2, 7, 8] [] (.join [(31, .b)] [0, 1, 2, 7, 8, 9] [] (.leaf) (.two (.two (.leaf) (.join [(47, .b)] [0, 1, 2, 7, 8, 9] [] (.leaf) (.two (.leaf) (.leaf)))) (.leaf))) (.leaf))) .leaf) (.leaf)))) .leaf)) (.two (.leaf) (.leaf))))
def R15 : Slots := [(6, .s)]
noncomputable def overdubkeep_Samples : FunA := denF Try.prog G15 Try.f15 A15 R15
noncomputable def overdubkeep_Samples_L1_B (os vs : List AV) (μ : AMem) : Option Res := joinK [(7, .s), (8, .i .i64)] vs (envO [0, 1, 2] os) fun e => den Try.prog G15 Try.f15.ntmps (cL (cL (cR (cL (cR (cR (bodyOf Try.f15))))))) (aL (aL (aR (aL (aR (aR A15)))))) { ret := R15, exits := [(0, [(7, .s)])] } Res e μ fun ex e μ => some (ex, valsOf (Lv.at { ret := R15, exits := [(0, [(7, .s)])] } [(7, .s), (8, .i .i64)] ex) e, μ)
noncomputable def overdubkeep_Samples_L1 (os vs : List AV) (μ : AMem) : Option Res := loopA (overdubkeep_Samples_L1_B os) vs μ
theorem overdubkeep_Samples_L1_B_eq (s0 : SV) (s1 : Int) (s2 : Bool) (s7 : SV) (s8 : Int) (μ : AMem) : overdubkeep_Samples_L1_B [.s s0, .s (.int .i64 s1), .s (.bool s2)] [.s s7, .s (.int .i64 s8)] μ =
  seqJ
  ((lenS (.s s0)).bind fun l12 =>
    bif decide (s8 < ((l12 : Nat) : Int)) then
    (some (.normal, [.s (.bool (decide (s8 < s1)))], μ))
    else
    (some (.normal, [.s (.bool false)], μ)))
  (fun vs13 m14 =>
    headK vs13 fun a15 r16 =>
    asB a15 fun b17 =>
    bif b17 then
    (indS 1 (.s s0) s8 fun p18 =>
      loadAt m14 p18 fun v19 =>
      asI .i64 v19 fun n20 =>
      seqJ
      (seqJ
        (bif !(!s2) then
          (some (.normal, [.s (.bool ((Int.tmod n20 5) != 4))], m14))
          else
          (some (.normal, [.s (.bool true)], m14)))
        (fun vs21 m22 =>
          headK vs21 fun a23 r24 =>
          asB a23 fun b25 =>
          bif b25 then
          ((overdubkeep_Within [.s (.int .i64 (IntKind.wrap .i64 (n20 - (-8388608)))), .s (.int .i64 16777216)] m22).bind fun r26 =>
            asI .i64 r26.1 fun n27 =>
            seqJ
            (indS 1 (.s s0) s8 fun p28 =>
              loadAt r26.2 p28 fun v29 =>
              asI .i64 v29 fun n30 =>
              bif decide (n30 ≥ (-8388608)) then
              (indS 1 (.s s0) s8 fun p31 =>
                loadAt r26.2 p31 fun v32 =>
                asI .i64 v32 fun n33 =>
                some (.normal, [.s (.bool (decide (n33 ≤ 8388607)))], r26.2))
              else
              (some (.normal, [.s (.bool false)], r26.2)))
            (fun vs34 m35 =>
              headK vs34 fun a36 r37 =>
              asB a36 fun b38 =>
              bif b38 then
              (indS 1 (.s s0) s8 fun p39 =>
                loadAt m35 p39 fun v40 =>
                asI .i64 v40 fun n41 =>
                some (.normal, [.s (.int .i64 n41)], m35))
              else
              (some (.normal, [.s (.int .i64 (IntKind.wrap .i64 ((-8388608) + n27)))], m35)))
            (fun vs42 m43 =>
              headK vs42 fun a47 r48 =>
              asS a47 fun x49 =>
              some (.ret, [.s x49], m43))
            (fun d46 vs44 m45 =>
              none))
          else
          (some (.normal, [.s (.int .i64 n20)], m22)))
        (fun vs50 m51 =>
          headK vs50 fun a55 r56 =>
          asS a55 fun x57 =>
          some (.ret, [.s x57], m51))
        (fun d54 vs52 m53 =>
          none))
      (fun vs58 m59 =>
        headK vs58 fun a60 r61 =>
        asI .i64 a60 fun n62 =>
        appendA 3 1 8 (m59.next + 3) ((m59.bump 5).set (m59.next + 2) (rowObj [.int .i64 n62] 1 3 (some 1))) (.s s7) (.s (.slice (m59.next + 2) 0 0 1)) fun x63 m64 =>
        asS x63 fun x65 =>
        some (.normal, [.s x65, .s (.int .i64 (IntKind.wrap .i64 (s8 + 1)))], m64))
      (fun vs66 m67 =>
        headK vs66 fun a71 r72 =>
        asS a71 fun x73 =>
        some (.ret, [.s x73], m67))
      (fun d70 vs68 m69 =>
        none))
    else
    (some (.exit 0, [.s s7], m14)))
  (fun vs74 m75 =>
    headK vs74 fun a79 r80 =>
    asS a79 fun x81 =>
    some (.ret, [.s x81], m75))
  (fun d78 vs76 m77 =>
    none) := by rw [← G15_10]; kernel_rfl
theorem overdubkeep_Samples_L1_eq (os vs : List AV) (μ : AMem) : overdubkeep_Samples_L1 os vs μ = (overdubkeep_Samples_L1_B os vs μ).bind fun r => match r.1 with | .normal => overdubkeep_Samples_L1 os r.2.1 r.2.2 | _ => some r := loopA_eq _ _ _
theorem overdubkeep_Samples_eq (p0 : SV) (p1 : Int) (p2 : Bool) (μ : AMem) : overdubkeep_Samples [.s p0, .s (.int .i64 p1), .s (.bool p2)] μ =
  seqJ (overdubkeep_Samples_L1 [.s p0, .s (.int .i64 p1), .s (.bool p2)] [.s .nilSlice, .s (.int .i64 0)] μ)
  (fun _ _ => none)
  (fun vs1 m2 =>
    headK vs1 fun a6 r7 =>
    asS a6 fun x8 =>
    some (.s x8, m2))
  (fun d5 vs3 m4 =>
    bif Nat.beq 0 d5 then (headK vs3 fun a9 r10 =>
      asS a9 fun x11 =>
      some (.s x11, m4)) else (none)) := by kernel_rfl

/-! ### overdub/overdublaw06.coefs -/
noncomputable def G16 : FuncId → FunA := fun g => bif Nat.beq g 10 then overdubkeep_Within else fun _ _ => none
theorem G16_10 : G16 10 = overdubkeep_Within := by kernel_rfl
def A16 : Ann := .two (.leaf) (.two (.leaf) (.two (.two (.leaf) (.join [(5, .s)] [] [] (.loop [(5, .s), (6, .i .i64)] [0, 1] [0] (.two (.join [(14, .b)] [0, 1, 5, 6] [] (.leaf) (.two (.leaf) (.leaf))) (.join [(5, .s)] [0, 1, 6] [] (.join [(0, .s), (1, .b), (5, .s), (6, .i .i64)] [] [] (.two (.join [(25, .b)] [0, 1, 5, 6] [] (.leaf) (.two (.two (.leaf) (.leaf)) (.leaf))) (.leaf)) .leaf) (.leaf)))) .leaf)) (.two (.leaf) (.leaf))))
def R16 : Slots := [(4, .s)]
noncomputable def overdublaw06_coefs : FunA := denF Try.prog G16 Try.f16 A16 R16
noncomputable def overdublaw06_coefs_L1_B (os vs : List AV) (μ : AMem) : Option Res := joinK [(5, .s), (6, .i .i64)] vs (envO [0, 1] os) fun e => den Try.prog G16 Try.f16.ntmps (cL (cL (cR (cL (cR (cR (bodyOf Try.f16))))))) (aL (aL (aR (aL (aR (aR A16)))))) { ret := R16, exits := [(0, [(5, .s)])] } Res e μ fun ex e μ => some (ex, valsOf (Lv.at { ret := R16, exits := [(0, [(5, .s)])] } [(5, .s), (6, .i .i64)] ex) e, μ)
noncomputable def overdublaw06_coefs_L1 (os vs : List AV) (μ : AMem) : Option Res := loopA (overdublaw06_coefs_L1_B os) vs μ
theorem overdublaw06_coefs_L1_B_eq (s0 : SV) (s1 : Bool) (s5 : SV) (s6 : Int) (μ : AMem) : overdublaw06_coefs_L1_B [.s s0, .s (.bool s1)] [.s s5, .s (.int .i64 s6)] μ =
  seqJ
  ((lenS (.s s0)).bind fun l12 =>
    bif decide (s6 < ((l12 : Nat) : Int)) then
    (some (.normal, [.s (.bool (decide (s6 < 14)))], μ))
    else
    (some (.normal, [.s (.bool false)], μ)))
  (fun vs13 m14 =>
    headK vs13 fun a15 r16 =>
    asB a15 fun b17 =>
    bif b17 then
    (seqJ
      (seqJ
        (bif s1 then
          (indS 1 (.s s0) s6 fun p18 =>
            loadAt m14 p18 fun v19 =>
            asI .i64 v19 fun n20 =>
            some (.normal, [.s (.bool ((Int.tmod n20 4) == 3))], m14))
          else
          (some (.normal, [.s (.bool false)], m14)))
        (fun vs21 m22 =>
          headK vs21 fun a23 r24 =>
          asB a23 fun b25 =>
          bif b25 then
          (indS 1 (.s s0) s6 fun p26 =>
            loadAt (m22.bump 8) p26 fun v27 =>
            asI .i64 v27 fun n28 =>
            appendA 3 1 8 (m22.next + 6) ((m22.bump 8).set (m22.next + 5) (rowObj [.int .i64 n28] 1 3 (some 1))) (.s s5) (.s (.slice (m22.next + 5) 0 0 1)) fun x29 m30 =>
            asS x29 fun x31 =>
            some (.normal, [.s x31], m30))
          else
          (indS 1 (.s s0) s6 fun p32 =>
            loadAt (m22.bump 10) p32 fun v33 =>
            asI .i64 v33 fun n34 =>
            (overdubkeep_Within [.s (.int .i64 n34), .s (.int .i64 65536)] (m22.bump 10)).bind fun r35 =>
            asI .i64 r35.1 fun n36 =>
            appendA 3 1 8 (m22.next + 8) (r35.2.set (m22.next + 7) (rowObj [.int .i64 (IntKind.wrap .i64 (n36 - 32768))] 1 3 (some 1))) (.s s5) (.s (.slice (m22.next + 7) 0 0 1)) fun x37 m38 =>
            asS x37 fun x39 =>
            some (.normal, [.s x39], m38)))
        (fun vs40 m41 =>
          headK vs40 fun a45 r46 =>
          asS a45 fun x47 =>
          some (.ret, [.s x47], m41))
        (fun d44 vs42 m43 =>
          none))
      (fun vs48 m49 =>
        headK vs48 fun a50 r51 =>
        asS a50 fun x52 =>
        some (.normal, [.s x52, .s (.int .i64 (IntKind.wrap .i64 (s6 + 1)))], m49))
      (fun vs53 m54 =>
        headK vs53 fun a58 r59 =>
        asS a58 fun x60 =>
        some (.ret, [.s x60], m54))
      (fun d57 vs55 m56 =>
        none))
    else
    (some (.exit 0, [.s s5], m14)))
  (fun vs61 m62 =>
    headK vs61 fun a66 r67 =>
    asS a66 fun x68 =>
    some (.ret, [.s x68], m62))
  (fun d65 vs63 m64 =>
    none) := by rw [← G16_10]; kernel_rfl
theorem overdublaw06_coefs_L1_eq (os vs : List AV) (μ : AMem) : overdublaw06_coefs_L1 os vs μ = (overdublaw06_coefs_L1_B os vs μ).bind fun r => match r.1 with | .normal => overdublaw06_coefs_L1 os r.2.1 r.2.2 | _ => some r := loopA_eq _ _ _
theorem overdublaw06_coefs_eq (p0 : SV) (p1 : Bool) (μ : AMem) : overdublaw06_coefs [.s p0, .s (.bool p1)] μ =
  seqJ (overdublaw06_coefs_L1 [.s p0, .s (.bool p1)] [.s .nilSlice, .s (.int .i64 0)] μ)
  (fun _ _ => none)
  (fun vs1 m2 =>
    headK vs1 fun a6 r7 =>
    asS a6 fun x8 =>
    some (.s x8, m2))
  (fun d5 vs3 m4 =>
    bif Nat.beq 0 d5 then (headK vs3 fun a9 r10 =>
      asS a9 fun x11 =>
      some (.s x11, m4)) else (none)) := by kernel_rfl

/-! ### overdub/overdubkeep.Copy[int] -/
noncomputable def G17 : FuncId → FunA := fun _ _ _ => none
def A17 : Ann := .two (.leaf) (.two (.leaf) (.leaf))
def R17 : Slots := [(2, .s)]
noncomputable def overdubkeep_Copy_int : FunA := denF Try.prog G17 Try.f17 A17 R17
theorem overdubkeep_Copy_int_eq (p0 : SV) (μ : AMem) : overdubkeep_Copy_int [.s p0] μ =
  appendA 3 1 8 (μ.next + 1) (μ.bump 3) (.s .nilSlice) (.s p0) fun x1 m2 =>
  asS x1 fun x3 =>
  some (.s x3, m2) := by kernel_rfl

/-! ### overdub/lpc.May -/
noncomputable def G28 : FuncId → FunA := fun g => bif Nat.beq g 25 then lpc_coef else fun _ _ => none
theorem G28_25 : G28 25 = lpc_coef := by kernel_rfl
def A28 : Ann := .two (.leaf) (.two (.two (.leaf) (.join [(0, .s)] [] [] (.loop [(7, .i .i64)] [0, 5, 6] [0] (.two (.leaf) (.two (.two (.leaf) (.leaf)) (.two (.join [(0, .s), (5, .s), (6, .i .i64), (7, .i .i64)] [] [] (.two (.leaf) (.two (.leaf) (.two (.two (.leaf) (.leaf)) (.leaf)))) .leaf) (.leaf))))) .leaf)) (.two (.leaf) (.leaf)))
def R28 : Slots := [(2, .b)]
noncomputable def lpc_May : FunA := denF Try.prog G28 Try.f28 A28 R28
noncomputable def lpc_May_L1_B (os vs : List AV) (μ : AMem) : Option Res := joinK [(7, .i .i64)] vs (envO [0, 5, 6] os) fun e => den Try.prog G28 Try.f28.ntmps (cL (cL (cR (cL (cR (bodyOf Try.f28)))))) (aL (aL (aR (aL (aR A28))))) { ret := R28, exits := [(0, [(0, .s)])] } Res e μ fun ex e μ => some (ex, valsOf (Lv.at { ret := R28, exits := [(0, [(0, .s)])] } [(7, .i .i64)] ex) e, μ)
noncomputable def lpc_May_L1 (os vs : List AV) (μ : AMem) : Option Res := loopA (lpc_May_L1_B os) vs μ
theorem lpc_May_L1_B_eq (s0 : SV) (s5 : SV) (s6 : Int) (s7 : Int) (μ : AMem) : lpc_May_L1_B [.s s0, .s s5, .s (.int .i64 s6)] [.s (.int .i64 s7)] μ =
  bif decide (s7 < s6) then
  (indS 1 (.s s5) s7 fun p15 =>
    loadAt μ p15 fun v16 =>
    asI .i64 v16 fun n17 =>
    (lpc_coef [.s (.int .i64 n17)] μ).bind fun r18 =>
    asB r18.1 fun b19 =>
    bif (!b19) then
    (some (.ret, [.s (.bool false)], r18.2))
    else
    (some (.normal, [.s (.int .i64 (IntKind.wrap .i64 (s7 + 1)))], r18.2)))
  else
  (some (.exit 0, [.s s0], μ)) := by rw [← G28_25]; kernel_rfl
theorem lpc_May_L1_eq (os vs : List AV) (μ : AMem) : lpc_May_L1 os vs μ = (lpc_May_L1_B os vs μ).bind fun r => match r.1 with | .normal => lpc_May_L1 os r.2.1 r.2.2 | _ => some r := loopA_eq _ _ _
theorem lpc_May_eq (p0 : SV) (μ : AMem) : lpc_May [.s p0] μ =
  (lenS (.s p0)).bind fun l1 =>
  seqJ (lpc_May_L1 [.s p0, .s p0, .s (.int .i64 ((l1 : Nat) : Int))] [.s (.int .i64 0)] μ)
  (fun _ _ => none)
  (fun vs2 m3 =>
    headK vs2 fun a7 r8 =>
    asB a7 fun b9 =>
    some (.s (.bool b9), m3))
  (fun d6 vs4 m5 =>
    bif Nat.beq 0 d6 then (headK vs4 fun a10 r11 =>
      asS a10 fun x12 =>
      (lenS (.s x12)).bind fun l13 =>
      bif decide (((l13 : Nat) : Int) ≥ 1) then
      ((lenS (.s x12)).bind fun l14 =>
        some (.s (.bool (decide (((l14 : Nat) : Int) ≤ 12))), m5))
      else
      (some (.s (.bool false), m5))) else (none)) := by kernel_rfl

/-! ### overdub/fixed.Sample -/
noncomputable def G35 : FuncId → FunA := fun _ _ _ => none
def A35 : Ann := .two (.leaf) (.two (.leaf) (.leaf))
def R35 : Slots := [(2, .b)]
noncomputable def fixed_Sample : FunA := denF Try.prog G35 Try.f35 A35 R35
theorem fixed_Sample_eq (p0 : Int) (μ : AMem) : fixed_Sample [.s (.int .i64 p0)] μ =
  bif decide (p0 ≥ (-8388608)) then
  (some (.s (.bool (decide (p0 ≤ 8388607))), μ))
  else
  (some (.s (.bool false), μ)) := by kernel_rfl

/-! ### overdub/fixed.Check -/
noncomputable def G29 : FuncId → FunA := fun g => bif Nat.beq g 35 then fixed_Sample else fun _ _ => none
theorem G29_35 : G29 35 = fixed_Sample := by kernel_rfl
def A29 : Ann := .two (.leaf) (.two (.two (.leaf) (.join [(0, .s)] [] [] (.loop [(7, .i .i64)] [0, 5, 6] [0] (.two (.leaf) (.two (.two (.leaf) (.leaf)) (.two (.join [(0, .s), (5, .s), (6, .i .i64), (7, .i .i64)] [] [] (.two (.leaf) (.two (.leaf) (.two (.two (.leaf) (.leaf)) (.leaf)))) .leaf) (.leaf))))) .leaf)) (.two (.two (.leaf) (.two (.two (.leaf) (.leaf)) (.leaf))) (.two (.leaf) (.leaf))))
def R29 : Slots := [(2, .i .i64)]
noncomputable def fixed_Check : FunA := denF Try.prog G29 Try.f29 A29 R29
noncomputable def fixed_Check_L1_B (os vs : List AV) (μ : AMem) : Option Res := joinK [(7, .i .i64)] vs (envO [0, 5, 6] os) fun e => den Try.prog G29 Try.f29.ntmps (cL (cL (cR (cL (cR (bodyOf Try.f29)))))) (aL (aL (aR (aL (aR A29))))) { ret := R29, exits := [(0, [(0, .s)])] } Res e μ fun ex e μ => some (ex, valsOf (Lv.at { ret := R29, exits := [(0, [(0, .s)])] } [(7, .i .i64)] ex) e, μ)
noncomputable def fixed_Check_L1 (os vs : List AV) (μ : AMem) : Option Res := loopA (fixed_Check_L1_B os) vs μ
theorem fixed_Check_L1_B_eq (s0 : SV) (s5 : SV) (s6 : Int) (s7 : Int) (μ : AMem) : fixed_Check_L1_B [.s s0, .s s5, .s (.int .i64 s6)] [.s (.int .i64 s7)] μ =
  bif decide (s7 < s6) then
  (indS 1 (.s s5) s7 fun p14 =>
    loadAt μ p14 fun v15 =>
    asI .i64 v15 fun n16 =>
    (fixed_Sample [.s (.int .i64 n16)] μ).bind fun r17 =>
    asB r17.1 fun b18 =>
    bif (!b18) then
    (some (.ret, [.s (.int .i64 8)], r17.2))
    else
    (some (.normal, [.s (.int .i64 (IntKind.wrap .i64 (s7 + 1)))], r17.2)))
  else
  (some (.exit 0, [.s s0], μ)) := by rw [← G29_35]; kernel_rfl
theorem fixed_Check_L1_eq (os vs : List AV) (μ : AMem) : fixed_Check_L1 os vs μ = (fixed_Check_L1_B os vs μ).bind fun r => match r.1 with | .normal => fixed_Check_L1 os r.2.1 r.2.2 | _ => some r := loopA_eq _ _ _
theorem fixed_Check_eq (p0 : SV) (μ : AMem) : fixed_Check [.s p0] μ =
  (lenS (.s p0)).bind fun l1 =>
  seqJ (fixed_Check_L1 [.s p0, .s p0, .s (.int .i64 ((l1 : Nat) : Int))] [.s (.int .i64 0)] μ)
  (fun _ _ => none)
  (fun vs2 m3 =>
    headK vs2 fun a7 r8 =>
    asI .i64 a7 fun n9 =>
    some (.s (.int .i64 n9), m3))
  (fun d6 vs4 m5 =>
    bif Nat.beq 0 d6 then (headK vs4 fun a10 r11 =>
      asS a10 fun x12 =>
      (lenS (.s x12)).bind fun l13 =>
      bif decide (((l13 : Nat) : Int) > 64) then
      (some (.s (.int .i64 4), m5))
      else
      (some (.s (.int .i64 0), m5))) else (none)) := by kernel_rfl

/-! ### overdub/lpc.Residual -/
noncomputable def G18 : FuncId → FunA := fun g => bif Nat.beq g 28 then lpc_May else bif Nat.beq g 29 then fixed_Check else bif Nat.beq g 11 then lpc_Guess else fun _ _ => none
theorem G18_28 : G18 28 = lpc_May := by kernel_rfl
theorem G18_29 : G18 29 = fixed_Check := by kernel_rfl
theorem G18_11 : G18 11 = lpc_Guess := by kernel_rfl
def A18 : Ann := .two (.leaf) (.two (.join [(18, .b)] [0, 1] [] (.leaf) (.two (.two (.leaf) (.leaf)) (.leaf))) (.two (.two (.leaf) (.two (.leaf) (.two (.two (.leaf) (.leaf)) (.leaf)))) (.two (.leaf) (.two (.two (.leaf) (.join [(7, .s)] [] [] (.loop [(7, .s), (8, .i .i64)] [0, 1] [0] (.two (.two (.leaf) (.two (.leaf) (.leaf))) (.two (.join [(0, .s), (1, .s), (7, .s), (8, .i .i64)] [] [] (.ord [0, 1, 2, 3, 4, 5, 6, 7, 8, 9, 10, 11, 12, 13]) .leaf) (.leaf)))) .leaf)) (.two (.leaf) (.leaf))))))
def R18 : Slots := [(4, .s), (5, .i .i64)]
noncomputable def lpc_Residual : FunA := denF Try.prog G18 Try.f18 A18 R18
noncomputable def lpc_Residual_L1_B (os vs : List AV) (μ : AMem) : Option Res := joinK [(7, .s), (8, .i .i64)] vs (envO [0, 1] os) fun e => den Try.prog G18 Try.f18.ntmps (cL (cL (cR (cL (cR (cR (cR (cR (bodyOf Try.f18))))))))) (aL (aL (aR (aL (aR (aR (aR (aR A18)))))))) { ret := R18, exits := [(0, [(7, .s)])] } Res e μ fun ex e μ => some (ex, valsOf (Lv.at { ret := R18, exits := [(0, [(7, .s)])] } [(7, .s), (8, .i .i64)] ex) e, μ)
noncomputable def lpc_Residual_L1 (os vs : List AV) (μ : AMem) : Option Res := loopA (lpc_Residual_L1_B os) vs μ
theorem lpc_Residual_L1_B_eq (s0 : SV) (s1 : SV) (s7 : SV) (s8 : Int) (μ : AMem) : lpc_Residual_L1_B [.s s0, .s s1] [.s s7, .s (.int .i64 s8)] μ =
  (lenS (.s s0)).bind fun l38 =>
  bif decide (s8 < ((l38 : Nat) : Int)) then
  (indS 1 (.s s0) s8 fun p39 =>
    loadAt (μ.bump 14) p39 fun v40 =>
    asI .i64 v40 fun n41 =>
    cutS 1 (.s s0) 0 s8 fun x42 =>
    (lpc_Guess [x42, .s s1] (μ.bump 14)).bind fun r43 =>
    asI .i64 r43.1 fun n44 =>
    checkA (loadAt r43.2 p39 some = some (.s (.int .i64 n41)))
    (checkA (r43.2.obj (μ.next + 11) = none)
      (appendA 3 1 8 (μ.next + 12) (r43.2.set (μ.next + 11) (rowObj [.int .i64 (IntKind.wrap .i64 (n41 - n44))] 1 3 (some 1))) (.s s7) (.s (.slice (μ.next + 11) 0 0 1)) fun x45 m46 =>
        asS x45 fun x47 =>
        some (.normal, [.s x47, .s (.int .i64 (IntKind.wrap .i64 (s8 + 1)))], m46))))
  else
  (some (.exit 0, [.s s7], μ)) := by rw [← G18_11]; kernel_rfl
theorem lpc_Residual_L1_eq (os vs : List AV) (μ : AMem) : lpc_Residual_L1 os vs μ = (lpc_Residual_L1_B os vs μ).bind fun r => match r.1 with | .normal => lpc_Residual_L1 os r.2.1 r.2.2 | _ => some r := loopA_eq _ _ _
theorem lpc_Residual_eq (p0 : SV) (p1 : SV) (μ : AMem) : lpc_Residual [.s p0, .s p1] μ =
  seqJ
  ((lpc_May [.s p1] μ).bind fun r1 =>
    asB r1.1 fun b2 =>
    bif !(!b2) then
    ((lenS (.s p0)).bind fun l3 =>
      (lenS (.s p1)).bind fun l4 =>
      some (.normal, [.s (.bool (decide (((l3 : Nat) : Int) < ((l4 : Nat) : Int))))], r1.2))
    else
    (some (.normal, [.s (.bool true)], r1.2)))
  (fun vs5 m6 =>
    headK vs5 fun a7 r8 =>
    asB a7 fun b9 =>
    bif b9 then
    (some (.tuple [.s .nilSlice, .s (.int .i64 1)], m6))
    else
    ((fixed_Check [.s p0] m6).bind fun r10 =>
      asI .i64 r10.1 fun n11 =>
      bif (n11 != 0) then
      (some (.tuple [.s .nilSlice, .s (.int .i64 n11)], r10.2))
      else
      ((lenS (.s p1)).bind fun l12 =>
        seqJ (lpc_Residual_L1 [.s p0, .s p1] [.s .nilSlice, .s (.int .i64 ((l12 : Nat) : Int))] r10.2)
        (fun _ _ => none)
        (fun vs13 m14 =>
          headK vs13 fun a18 r19 =>
          asS a18 fun x20 =>
          headK r19 fun a21 r22 =>
          asI .i64 a21 fun n23 =>
          some (.tuple [.s x20, .s (.int .i64 n23)], m14))
        (fun d17 vs15 m16 =>
          bif Nat.beq 0 d17 then (headK vs15 fun a24 r25 =>
            asS a24 fun x26 =>
            some (.tuple [.s x26, .s (.int .i64 0)], m16)) else (none)))))
  (fun vs27 m28 =>
    headK vs27 fun a32 r33 =>
    asS a32 fun x34 =>
    headK r33 fun a35 r36 =>
    asI .i64 a35 fun n37 =>
    some (.tuple [.s x34, .s (.int .i64 n37)], m28))
  (fun d31 vs29 m30 =>
    none) := by rw [← G18_28, ← G18_29]; kernel_rfl

/-! ### overdub/overdubkeep.Same[int] -/
noncomputable def G19 : FuncId → FunA := fun _ _ _ => none
def A19 : Ann := .two (.leaf) (.two (.two (.leaf) (.two (.two (.leaf) (.leaf)) (.leaf))) (.two (.two (.leaf) (.join [] [] [] (.loop [(5, .i .i64)] [0, 1] [0] (.two (.two (.leaf) (.two (.leaf) (.leaf))) (.two (.join [(0, .s), (1, .s), (5, .i .i64)] [] [] (.two (.ord [0, 1, 2, 3, 4, 5, 6, 7, 8]) (.two (.two (.leaf) (.leaf)) (.leaf))) .leaf) (.leaf)))) .leaf)) (.two (.leaf) (.leaf))))
def R19 : Slots := [(4, .b)]
noncomputable def overdubkeep_Same_int : FunA := denF Try.prog G19 Try.f19 A19 R19
noncomputable def overdubkeep_Same_int_L1_B (os vs : List AV) (μ : AMem) : Option Res := joinK [(5, .i .i64)] vs (envO [0, 1] os) fun e => den Try.prog G19 Try.f19.ntmps (cL (cL (cR (cL (cR (cR (bodyOf Try.f19))))))) (aL (aL (aR (aL (aR (aR A19)))))) { ret := R19, exits := [(0, [])] } Res e μ fun ex e μ => some (ex, valsOf (Lv.at { ret := R19, exits := [(0, [])] } [(5, .i .i64)] ex) e, μ)
noncomputable def overdubkeep_Same_int_L1 (os vs : List AV) (μ : AMem) : Option Res := loopA (overdubkeep_Same_int_L1_B os) vs μ
theorem overdubkeep_Same_int_L1_B_eq (s0 : SV) (s1 : SV) (s5 : Int) (μ : AMem) : overdubkeep_Same_int_L1_B [.s s0, .s s1] [.s (.int .i64 s5)] μ =
  (lenS (.s s0)).bind fun l11 =>
  bif decide (s5 < ((l11 : Nat) : Int)) then
  (indS 1 (.s s0) s5 fun p12 =>
    loadAt μ p12 fun v13 =>
    asI .i64 v13 fun n14 =>
    indS 1 (.s s1) s5 fun p15 =>
    loadAt μ p15 fun v16 =>
    asI .i64 v16 fun n17 =>
    bif (n14 != n17) then
    (some (.ret, [.s (.bool false)], μ))
    else
    (some (.normal, [.s (.int .i64 (IntKind.wrap .i64 (s5 + 1)))], μ)))
  else
  (some (.exit 0, [], μ)) := by kernel_rfl
theorem overdubkeep_Same_int_L1_eq (os vs : List AV) (μ : AMem) : overdubkeep_Same_int_L1 os vs μ = (overdubkeep_Same_int_L1_B os vs μ).bind fun r => match r.1 with | .normal => overdubkeep_Same_int_L1 os r.2.1 r.2.2 | _ => some r := loopA_eq _ _ _
theorem overdubkeep_Same_int_eq (p0 : SV) (p1 : SV) (μ : AMem) : overdubkeep_Same_int [.s p0, .s p1] μ =
  (lenS (.s p0)).bind fun l1 =>
  (lenS (.s p1)).bind fun l2 =>
  bif (((l1 : Nat) : Int) != ((l2 : Nat) : Int)) then
  (some (.s (.bool false), μ))
  else
  (seqJ (overdubkeep_Same_int_L1 [.s p0, .s p1] [.s (.int .i64 0)] μ)
    (fun _ _ => none)
    (fun vs3 m4 =>
      headK vs3 fun a8 r9 =>
      asB a8 fun b10 =>
      some (.s (.bool b10), m4))
    (fun d7 vs5 m6 =>
      bif Nat.beq 0 d7 then (some (.s (.bool true), m6)) else (none))) := by kernel_rfl

/-! ### overdub/overdublaw06.LpcNoughts -/
noncomputable def G5 : FuncId → FunA := fun g => bif Nat.beq g 15 then overdubkeep_Samples else bif Nat.beq g 10 then overdubkeep_Within else bif Nat.beq g 16 then overdublaw06_coefs else bif Nat.beq g 13 then overdubkeep_Cut_int else bif Nat.beq g 11 then lpc_Guess else bif Nat.beq g 17 then overdubkeep_Copy_int else bif Nat.beq g 18 then lpc_Residual else bif Nat.beq g 12 then overdublaw06_wakes else bif Nat.beq g 19 then overdubkeep_Same_int else fun _ _ => none
theorem G5_15 : G5 15 = overdubkeep_Samples := by kernel_rfl
theorem G5_10 : G5 10 = overdubkeep_Within := by kernel_rfl
theorem G5_16 : G5 16 = overdublaw06_coefs := by kernel_rfl
theorem G5_13 : G5 13 = overdubkeep_Cut_int := by kernel_rfl
theorem G5_11 : G5 11 = lpc_Guess := by kernel_rfl
theorem G5_17 : G5 17 = overdubkeep_Copy_int := by kernel_rfl
theorem G5_18 : G5 18 = lpc_Residual := by kernel_rfl
theorem G5_12 : G5 12 = overdublaw06_wakes := by kernel_rfl
theorem G5_19 : G5 19 = overdubkeep_Same_int := by kernel_rfl
def A5 : Ann := .two (.leaf) (.two (.leaf) (.two (.leaf) (.two (.leaf) (.two (.leaf) (.two (.join [(39, .b)] [0, 2, 7] [] (.leaf) (.two (.two (.leaf) (.leaf)) (.leaf))) (.two (.leaf) (.two (.two (.leaf) (.two (.two (.leaf) (.leaf)) (.leaf))) (.two (.leaf) (.leaf)))))))))
def R5 : Slots := [(6, .b)]
noncomputable def overdublaw06_LpcNoughts : FunA := denF Try.prog G5 Try.f5 A5 R5
theorem overdublaw06_LpcNoughts_eq (p0 : SV) (p1 : SV) (p2 : Int) (μ : AMem) : overdublaw06_LpcNoughts [.s p0, .s p1, .s (.int .i64 p2)] μ =
  (overdubkeep_Samples [.s p0, .s (.int .i64 64), .s (.bool false)] μ).bind fun r1 =>
  asS r1.1 fun x2 =>
  (overdubkeep_Within [.s (.int .i64 p2), .s (.int .i64 12)] r1.2).bind fun r3 =>
  asI .i64 r3.1 fun n4 =>
  if 0 ≤ (IntKind.wrap .i64 (1 + n4)) ∧ (IntKind.wrap .i64 (1 + n4)) ≤ (IntKind.wrap .i64 (1 + n4)) ∧ (IntKind.wrap .i64 (1 + n4)) ≤ 9223372036854775807 ∧ (8 : Nat) * (IntKind.wrap .i64 (1 + n4)) ≤ 140737488355328 then
  ((overdublaw06_coefs [.s p1, .s (.bool false)] ((r3.2.bump 3).set (r3.2.next + 1) (rowObj (zerosA [.int .i64 0] (Int.toNat (IntKind.wrap .i64 (1 + n4)))) 1 3 (some (Int.toNat (IntKind.wrap .i64 (1 + n4))))))).bind fun r5 =>
    asS r5.1 fun x6 =>
    (overdubkeep_Cut_int [.s x6, .s (.int .i64 10)] r5.2).bind fun r7 =>
    asS r7.1 fun x8 =>
    seqJ
    ((lpc_Guess [.s x2, .s x8] (r7.2.bump 20)).bind fun r9 =>
      asI .i64 r9.1 fun n10 =>
      (overdubkeep_Copy_int [.s x8] r9.2).bind fun r11 =>
      asS r11.1 fun x12 =>
      appendA 3 1 8 (r7.2.next + 7) (r11.2.set (r7.2.next + 6) (rowObj [.int .i64 0, .int .i64 0] 1 3 (some 2))) (.s x12) (.s (.slice (r7.2.next + 6) 0 0 2)) fun x13 m14 =>
      asS x13 fun x15 =>
      (lpc_Guess [.s x2, .s x15] m14).bind fun r16 =>
      asI .i64 r16.1 fun n17 =>
      bif !(n10 != n17) then
      ((lpc_Guess [.s x2, .s .nilSlice] r16.2).bind fun r18 =>
        asI .i64 r18.1 fun n19 =>
        bif !(n19 != 0) then
        ((lpc_Guess [.s .nilSlice, .s x8] r18.2).bind fun r20 =>
          asI .i64 r20.1 fun n21 =>
          some (.normal, [.s (.bool (n21 != 0))], r20.2))
        else
        (some (.normal, [.s (.bool true)], r18.2)))
      else
      (some (.normal, [.s (.bool true)], r16.2)))
    (fun vs22 m23 =>
      headK vs22 fun a24 r25 =>
      asB a24 fun b26 =>
      bif b26 then
      (some (.s (.bool false), m23))
      else
      ((lpc_Residual [.s x2, .s (.slice (r3.2.next + 1) 0 0 (Int.toNat (IntKind.wrap .i64 (1 + n4))))] m23).bind fun r27 =>
        extrK 0 r27.1 fun t28 =>
        asS t28 fun x29 =>
        extrK 1 r27.1 fun t30 =>
        asI .i64 t30 fun n31 =>
        (lenS (.s x2)).bind fun l32 =>
        bif decide (((l32 : Nat) : Int) < (IntKind.wrap .i64 (1 + n4))) then
        (bif (n31 == 1) then
          ((lenS (.s x29)).bind fun l33 =>
            bif (((l33 : Nat) : Int) == 0) then
            ((overdublaw06_wakes [] r27.2).bind fun r34 =>
              asB r34.1 fun b35 =>
              some (.s (.bool b35), r34.2))
            else
            (some (.s (.bool false), r27.2)))
          else
          (some (.s (.bool false), r27.2)))
        else
        (bif (n31 == 0) then
          ((lenS (.s x2)).bind fun l36 =>
            cutS 1 (.s x2) (IntKind.wrap .i64 (1 + n4)) ((l36 : Nat) : Int) fun x37 =>
            (overdubkeep_Same_int [.s x29, x37] r27.2).bind fun r38 =>
            asB r38.1 fun b39 =>
            bif b39 then
            ((overdublaw06_wakes [] r38.2).bind fun r40 =>
              asB r40.1 fun b41 =>
              some (.s (.bool b41), r40.2))
            else
            (some (.s (.bool false), r38.2)))
          else
          (some (.s (.bool false), r27.2)))))
    (fun vs42 m43 =>
      headK vs42 fun a47 r48 =>
      asB a47 fun b49 =>
      some (.s (.bool b49), m43))
    (fun d46 vs44 m45 =>
      none)) else none := by rw [← G5_15, ← G5_10, ← G5_16, ← G5_13, ← G5_11, ← G5_17, ← G5_18, ← G5_12, ← G5_19]; kernel_rfl

/-! ### overdub/lpc.Restore$1 -/
noncomputable def G31 : FuncId → FunA := fun g => bif Nat.beq g 11 then lpc_Guess else fun _ _ => none
theorem G31_11 : G31 11 = lpc_Guess := by kernel_rfl
def A31 : Ann := .two (.leaf) (.two (.leaf) (.leaf))
def R31 : Slots := [(3, .i .i64)]
noncomputable def lpc_Restore_1 : FunA := denF Try.prog G31 Try.f31 A31 R31
theorem lpc_Restore_1_eq (p0 : SV) (p1 q1 o1 : Nat) (μ : AMem) : lpc_Restore_1 [.s p0, .s (.ptr p1 q1 o1)] μ =
  (μ.cell p1 q1 o1).bind fun x1 =>
  (lpc_Guess [.s p0, .s x1] μ).bind fun r2 =>
  asI .i64 r2.1 fun n3 =>
  some (.s (.int .i64 n3), r2.2) := by rw [← G31_11]; kernel_rfl

/-! ### overdub/fixed.Run -/
noncomputable def G30 : FuncId → FunA := fun g => bif Nat.beq g 29 then fixed_Check else bif Nat.beq g 35 then fixed_Sample else bif Nat.beq g 31 then lpc_Restore_1 else fun _ _ => none
theorem G30_29 : G30 29 = fixed_Check := by kernel_rfl
theorem G30_35 : G30 35 = fixed_Sample := by kernel_rfl
theorem G30_31 : G30 31 = lpc_Restore_1 := by kernel_rfl
def A30 : Ann := .two (.leaf) (.two (.leaf) (.two (.two (.leaf) (.two (.leaf) (.two (.two (.leaf) (.leaf)) (.leaf)))) (.two (.two (.leaf) (.join [(8, .s)] [] [] (.loop [(8, .s), (26, .i .i64)] [2, 24, 25] [0] (.two (.leaf) (.two (.two (.leaf) (.leaf)) (.two (.join [(2, .s), (8, .s), (24, .s), (25, .i .i64), (26, .i .i64)] [] [] (.two (.leaf) (.two (.join [(35, .b)] [2, 8, 11, 24, 25, 26] [] (.leaf) (.two (.two (.leaf) (.leaf)) (.leaf))) (.two (.leaf) (.two (.two (.leaf) (.two (.two (.leaf) (.leaf)) (.leaf))) (.leaf))))) .leaf) (.leaf))))) .leaf)) (.two (.two (.leaf) (.two (.two (.leaf) (.leaf)) (.leaf))) (.two (.leaf) (.leaf))))))
def R30 : Slots := [(6, .s), (7, .i .i64)]
noncomputable def fixed_Run : FunA := denF Try.prog G30 Try.f30 A30 R30
noncomputable def fixed_Run_L1_B (os vs : List AV) (μ : AMem) : Option Res := joinK [(8, .s), (26, .i .i64)] vs (envO [2, 24, 25] os) fun e => den Try.prog G30 Try.f30.ntmps (cL (cL (cR (cL (cR (cR (cR (bodyOf Try.f30)))))))) (aL (aL (aR (aL (aR (aR (aR A30))))))) { ret := R30, exits := [(0, [(8, .s)])] } Res e μ fun ex e μ => some (ex, valsOf (Lv.at { ret := R30, exits := [(0, [(8, .s)])] } [(8, .s), (26, .i .i64)] ex) e, μ)
noncomputable def fixed_Run_L1 (os vs : List AV) (μ : AMem) : Option Res := loopA (fixed_Run_L1_B os) vs μ
theorem fixed_Run_L1_B_eq (s2 : SV) (s24 : SV) (s25 : Int) (s8 : SV) (s26 : Int) (μ : AMem) : fixed_Run_L1_B [.s s2, .s s24, .s (.int .i64 s25)] [.s s8, .s (.int .i64 s26)] μ =
  bif decide (s26 < s25) then
  (indS 1 (.s s24) s26 fun p24 =>
    loadAt μ p24 fun v25 =>
    asI .i64 v25 fun n26 =>
    seqJ
    (bif !(decide (n26 < (-1099511627776))) then
      (some (.normal, [.s (.bool (decide (n26 > 1099511627776)))], μ))
      else
      (some (.normal, [.s (.bool true)], μ)))
    (fun vs27 m28 =>
      headK vs27 fun a29 r30 =>
      asB a29 fun b31 =>
      bif b31 then
      (some (.ret, [.s .nilSlice, .s (.int .i64 8)], m28))
      else
      (callV G30 (.s s2) [.s s8] m28 fun v33 m34 =>
        asI .i64 v33 fun n35 =>
        (fixed_Sample [.s (.int .i64 (IntKind.wrap .i64 (n35 + n26)))] m34).bind fun r36 =>
        asB r36.1 fun b37 =>
        bif (!b37) then
        (some (.ret, [.s .nilSlice, .s (.int .i64 8)], r36.2))
        else
        (appendA 3 1 8 (r36.2.next + 3) ((r36.2.bump 5).set (r36.2.next + 2) (rowObj [.int .i64 (IntKind.wrap .i64 (n35 + n26))] 1 3 (some 1))) (.s s8) (.s (.slice (r36.2.next + 2) 0 0 1)) fun x38 m39 =>
          asS x38 fun x40 =>
          some (.normal, [.s x40, .s (.int .i64 (IntKind.wrap .i64 (s26 + 1)))], m39))))
    (fun vs41 m42 =>
      headK vs41 fun a46 r47 =>
      asS a46 fun x48 =>
      headK r47 fun a49 r50 =>
      asI .i64 a49 fun n51 =>
      some (.ret, [.s x48, .s (.int .i64 n51)], m42))
    (fun d45 vs43 m44 =>
      none))
  else
  (some (.exit 0, [.s s8], μ)) := by rw [← G30_35]; kernel_rfl
theorem fixed_Run_L1_eq (os vs : List AV) (μ : AMem) : fixed_Run_L1 os vs μ = (fixed_Run_L1_B os vs μ).bind fun r => match r.1 with | .normal => fixed_Run_L1 os r.2.1 r.2.2 | _ => some r := loopA_eq _ _ _
theorem fixed_Run_eq (p0 : SV) (p1 : SV) (p2 : SV) (μ : AMem) : fixed_Run [.s p0, .s p1, .s p2] μ =
  appendA 3 1 8 (μ.next + 1) (μ.bump 3) (.s .nilSlice) (.s p0) fun x1 m2 =>
  asS x1 fun x3 =>
  (lenS (.s p0)).bind fun l4 =>
  cutS 1 (.s p0) 0 (if 64 < ((l4 : Nat) : Int) then 64 else ((l4 : Nat) : Int)) fun x5 =>
  (fixed_Check [x5] m2).bind fun r6 =>
  asI .i64 r6.1 fun n7 =>
  bif (n7 != 0) then
  (some (.tuple [.s .nilSlice, .s (.int .i64 n7)], r6.2))
  else
  ((lenS (.s p1)).bind fun l8 =>
    seqJ (fixed_Run_L1 [.s p2, .s p1, .s (.int .i64 ((l8 : Nat) : Int))] [.s x3, .s (.int .i64 0)] r6.2)
    (fun _ _ => none)
    (fun vs9 m10 =>
      headK vs9 fun a14 r15 =>
      asS a14 fun x16 =>
      headK r15 fun a17 r18 =>
      asI .i64 a17 fun n19 =>
      some (.tuple [.s x16, .s (.int .i64 n19)], m10))
    (fun d13 vs11 m12 =>
      bif Nat.beq 0 d13 then (headK vs11 fun a20 r21 =>
        asS a20 fun x22 =>
        (lenS (.s x22)).bind fun l23 =>
        bif decide (((l23 : Nat) : Int) > 64) then
        (some (.tuple [.s .nilSlice, .s (.int .i64 4)], m12))
        else
        (some (.tuple [.s x22, .s (.int .i64 0)], m12))) else (none))) := by rw [← G30_29]; kernel_rfl

/-! ### overdub/lpc.Restore -/
noncomputable def G20 : FuncId → FunA := fun g => bif Nat.beq g 28 then lpc_May else bif Nat.beq g 31 then lpc_Restore_1 else bif Nat.beq g 30 then fixed_Run else fun _ _ => none
theorem G20_28 : G20 28 = lpc_May := by kernel_rfl
theorem G20_31 : G20 31 = lpc_Restore_1 := by kernel_rfl
theorem G20_30 : G20 30 = fixed_Run := by kernel_rfl
def A20 : Ann := .two (.leaf) (.two (.join [(17, .b)] [0, 1, 5] [] (.leaf) (.two (.two (.leaf) (.leaf)) (.leaf))) (.two (.leaf) (.leaf)))
def R20 : Slots := [(6, .s), (7, .i .i64)]
noncomputable def lpc_Restore : FunA := denF Try.prog G20 Try.f20 A20 R20
theorem lpc_Restore_eq (p0 : SV) (p1 : SV) (p2 : SV) (μ : AMem) : lpc_Restore [.s p0, .s p1, .s p2] μ =
  seqJ
  ((((μ.bump 3).set (μ.next + 0) (rowObj [p2] 1 24 (some 1))).cell (μ.next + 0) 0 0).bind fun x1 =>
    (lpc_May [.s x1] ((μ.bump 3).set (μ.next + 0) (rowObj [p2] 1 24 (some 1)))).bind fun r2 =>
    asB r2.1 fun b3 =>
    bif !(!b3) then
    ((lenS (.s p0)).bind fun l4 =>
      (r2.2.cell (μ.next + 0) 0 0).bind fun x5 =>
      (lenS (.s x5)).bind fun l6 =>
      some (.normal, [.s (.bool (((l4 : Nat) : Int) != ((l6 : Nat) : Int)))], r2.2))
    else
    (some (.normal, [.s (.bool true)], r2.2)))
  (fun vs7 m8 =>
    headK vs7 fun a9 r10 =>
    asB a9 fun b11 =>
    bif b11 then
    (some (.tuple [.s .nilSlice, .s (.int .i64 1)], m8))
    else
    ((fixed_Run [.s p0, .s p1, .s (.func 31 [((μ.next + 0), 0, 0)])] m8).bind fun r12 =>
      extrK 0 r12.1 fun t13 =>
      asS t13 fun x14 =>
      extrK 1 r12.1 fun t15 =>
      asI .i64 t15 fun n16 =>
      some (.tuple [.s x14, .s (.int .i64 n16)], r12.2)))
  (fun vs17 m18 =>
    headK vs17 fun a22 r23 =>
    asS a22 fun x24 =>
    headK r23 fun a25 r26 =>
    asI .i64 a25 fun n27 =>
    some (.tuple [.s x24, .s (.int .i64 n27)], m18))
  (fun d21 vs19 m20 =>
    none) := by rw [← G20_28, ← G20_30]; kernel_rfl

/-! ### overdub/overdublaw06.LpcErrors -/
noncomputable def G6 : FuncId → FunA := fun g => bif Nat.beq g 10 then overdubkeep_Within else bif Nat.beq g 18 then lpc_Residual else bif Nat.beq g 20 then lpc_Restore else bif Nat.beq g 12 then overdublaw06_wakes else fun _ _ => none
theorem G6_10 : G6 10 = overdubkeep_Within := by kernel_rfl
theorem G6_18 : G6 18 = lpc_Residual := by kernel_rfl
theorem G6_20 : G6 20 = lpc_Restore := by kernel_rfl
theorem G6_12 : G6 12 = overdublaw06_wakes := by kernel_rfl
def A6 : Ann := .two (.leaf) (.two (.leaf) (.two (.leaf) (.two (.leaf) (.two (.leaf) (.two (.leaf) (.two (.leaf) (.two (.leaf) (.two (.leaf) (.two (.leaf) (.two (.leaf) (.two (.leaf) (.two (.leaf) (.two (.leaf) (.two (.leaf) (.leaf)))))))))))))))
def R6 : Slots := [(4, .b)]
noncomputable def overdublaw06_LpcErrors : FunA := denF Try.prog G6 Try.f6 A6 R6
theorem overdublaw06_LpcErrors_eq (p0 : Int) (p1 : Int) (μ : AMem) : overdublaw06_LpcErrors [.s (.int .i64 p0), .s (.int .i64 p1)] μ =
  (overdubkeep_Within [.s (.int .i64 p0), .s (.int .i64 5)] μ).bind fun r1 =>
  asI .i64 r1.1 fun n2 =>
  (overdubkeep_Within [.s (.int .i64 p1), .s (.int .i64 9)] (r1.2.bump 5)).bind fun r3 =>
  asI .i64 r3.1 fun n4 =>
  if 0 ≤ (IntKind.wrap .i64 (13 + n2)) ∧ (IntKind.wrap .i64 (13 + n2)) ≤ (IntKind.wrap .i64 (13 + n2)) ∧ (IntKind.wrap .i64 (13 + n2)) ≤ 9223372036854775807 ∧ (8 : Nat) * (IntKind.wrap .i64 (13 + n2)) ≤ 140737488355328 then
  (if 0 ≤ (IntKind.wrap .i64 (65 + n2)) ∧ (IntKind.wrap .i64 (65 + n2)) ≤ (IntKind.wrap .i64 (65 + n2)) ∧ (IntKind.wrap .i64 (65 + n2)) ≤ 9223372036854775807 ∧ (8 : Nat) * (IntKind.wrap .i64 (65 + n2)) ≤ 140737488355328 then
    ((lpc_Residual [.s (.slice (r1.2.next + 3) 0 0 3), .s .nilSlice] (((((r3.2.set (r1.2.next + 3) (rowObj [.int .i64 (IntKind.wrap .i64 (8388608 + n4)), .int .i64 0, .int .i64 0] 1 3 (some 3))).bump 4).set ((r3.2.set (r1.2.next + 3) (rowObj [.int .i64 (IntKind.wrap .i64 (8388608 + n4)), .int .i64 0, .int .i64 0] 1 3 (some 3))).next + 2) (rowObj (zerosA [.int .i64 0] (Int.toNat (IntKind.wrap .i64 (13 + n2)))) 1 3 (some (Int.toNat (IntKind.wrap .i64 (13 + n2)))))).bump 4).set ((((r3.2.set (r1.2.next + 3) (rowObj [.int .i64 (IntKind.wrap .i64 (8388608 + n4)), .int .i64 0, .int .i64 0] 1 3 (some 3))).bump 4).set ((r3.2.set (r1.2.next + 3) (rowObj [.int .i64 (IntKind.wrap .i64 (8388608 + n4)), .int .i64 0, .int .i64 0] 1 3 (some 3))).next + 2) (rowObj (zerosA [.int .i64 0] (Int.toNat (IntKind.wrap .i64 (13 + n2)))) 1 3 (some (Int.toNat (IntKind.wrap .i64 (13 + n2)))))).next + 2) (rowObj (zerosA [.int .i64 0] (Int.toNat (IntKind.wrap .i64 (65 + n2)))) 1 3 (some (Int.toNat (IntKind.wrap .i64 (65 + n2))))))).bind fun r5 =>
      extrK 0 r5.1 fun t6 =>
      asS t6 fun x7 =>
      extrK 1 r5.1 fun t8 =>
      asI .i64 t8 fun n9 =>
      (lpc_Residual [.s (.slice (r1.2.next + 3) 0 0 3), .s (.slice (r5.2.next + 3) 0 0 1)] ((r5.2.bump 10).set (r5.2.next + 3) (rowObj [.int .i64 (IntKind.wrap .i64 (32768 + n2))] 1 3 (some 1)))).bind fun r10 =>
      extrK 0 r10.1 fun t11 =>
      asS t11 fun x12 =>
      extrK 1 r10.1 fun t13 =>
      asI .i64 t13 fun n14 =>
      (lpc_Residual [.s (.slice (r1.2.next + 3) 0 0 3), .s (.slice ((r3.2.set (r1.2.next + 3) (rowObj [.int .i64 (IntKind.wrap .i64 (8388608 + n4)), .int .i64 0, .int .i64 0] 1 3 (some 3))).next + 2) 0 0 (Int.toNat (IntKind.wrap .i64 (13 + n2))))] r10.2).bind fun r15 =>
      extrK 0 r15.1 fun t16 =>
      asS t16 fun x17 =>
      extrK 1 r15.1 fun t18 =>
      asI .i64 t18 fun n19 =>
      (lpc_Residual [.s (.slice (r1.2.next + 3) 0 0 3), .s (.slice (r15.2.next + 1) 0 0 2)] ((r15.2.bump 8).set (r15.2.next + 1) (rowObj [.int .i64 1, .int .i64 2] 1 3 (some 2)))).bind fun r20 =>
      extrK 0 r20.1 fun t21 =>
      asS t21 fun x22 =>
      extrK 1 r20.1 fun t23 =>
      asI .i64 t23 fun n24 =>
      (lpc_Residual [.s (.slice (r1.2.next + 3) 0 0 3), .s (.slice (r20.2.next + 1) 0 0 4)] ((r20.2.bump 8).set (r20.2.next + 1) (rowObj [.int .i64 1, .int .i64 2, .int .i64 3, .int .i64 4] 1 3 (some 4)))).bind fun r25 =>
      extrK 0 r25.1 fun t26 =>
      asS t26 fun x27 =>
      extrK 1 r25.1 fun t28 =>
      asI .i64 t28 fun n29 =>
      (lpc_Residual [.s (.slice ((((r3.2.set (r1.2.next + 3) (rowObj [.int .i64 (IntKind.wrap .i64 (8388608 + n4)), .int .i64 0, .int .i64 0] 1 3 (some 3))).bump 4).set ((r3.2.set (r1.2.next + 3) (rowObj [.int .i64 (IntKind.wrap .i64 (8388608 + n4)), .int .i64 0, .int .i64 0] 1 3 (some 3))).next + 2) (rowObj (zerosA [.int .i64 0] (Int.toNat (IntKind.wrap .i64 (13 + n2)))) 1 3 (some (Int.toNat (IntKind.wrap .i64 (13 + n2)))))).next + 2) 0 0 (Int.toNat (IntKind.wrap .i64 (65 + n2)))), .s (.slice (r25.2.next + 1) 0 0 1)] ((r25.2.bump 8).set (r25.2.next + 1) (rowObj [.int .i64 1] 1 3 (some 1)))).bind fun r30 =>
      extrK 0 r30.1 fun t31 =>
      asS t31 fun x32 =>
      extrK 1 r30.1 fun t33 =>
      asI .i64 t33 fun n34 =>
      (lpc_Restore [.s (.slice (r1.2.next + 3) 0 0 3), .s .nilSlice, .s (.slice (r30.2.next + 1) 0 0 2)] ((r30.2.bump 8).set (r30.2.next + 1) (rowObj [.int .i64 1, .int .i64 2] 1 3 (some 2)))).bind fun r35 =>
      extrK 0 r35.1 fun t36 =>
      asS t36 fun x37 =>
      extrK 1 r35.1 fun t38 =>
      asI .i64 t38 fun n39 =>
      (lpc_Restore [.s (.slice (r35.2.next + 0) 0 0 1), .s (.slice (r35.2.next + 1) 0 0 1), .s (.slice (r35.2.next + 2) 0 0 1)] ((((r35.2.bump 9).set (r35.2.next + 0) (rowObj [.int .i64 8388607] 1 3 (some 1))).set (r35.2.next + 1) (rowObj [.int .i64 5] 1 3 (some 1))).set (r35.2.next + 2) (rowObj [.int .i64 4096] 1 3 (some 1)))).bind fun r40 =>
      extrK 0 r40.1 fun t41 =>
      asS t41 fun x42 =>
      extrK 1 r40.1 fun t43 =>
      asI .i64 t43 fun n44 =>
      (lpc_Restore [.s (.slice (r40.2.next + 0) 0 0 1), .s (.slice ((((r3.2.set (r1.2.next + 3) (rowObj [.int .i64 (IntKind.wrap .i64 (8388608 + n4)), .int .i64 0, .int .i64 0] 1 3 (some 3))).bump 4).set ((r3.2.set (r1.2.next + 3) (rowObj [.int .i64 (IntKind.wrap .i64 (8388608 + n4)), .int .i64 0, .int .i64 0] 1 3 (some 3))).next + 2) (rowObj (zerosA [.int .i64 0] (Int.toNat (IntKind.wrap .i64 (13 + n2)))) 1 3 (some (Int.toNat (IntKind.wrap .i64 (13 + n2)))))).next + 2) 0 0 (Int.toNat (IntKind.wrap .i64 (65 + n2)))), .s (.slice (r40.2.next + 2) 0 0 1)] (((r40.2.bump 9).set (r40.2.next + 0) (rowObj [.int .i64 0] 1 3 (some 1))).set (r40.2.next + 2) (rowObj [.int .i64 4096] 1 3 (some 1)))).bind fun r45 =>
      extrK 0 r45.1 fun t46 =>
      asS t46 fun x47 =>
      extrK 1 r45.1 fun t48 =>
      asI .i64 t48 fun n49 =>
      bif (n9 == 1) then
      (bif (n14 == 1) then
        (bif (n19 == 1) then
          (bif (n24 == 8) then
            (bif (n29 == 1) then
              (bif (n34 == 4) then
                (bif (n39 == 1) then
                  (bif (n44 == 8) then
                    (bif (n49 == 4) then
                      ((overdublaw06_wakes [] r45.2).bind fun r50 =>
                        asB r50.1 fun b51 =>
                        some (.s (.bool b51), r50.2))
                      else
                      (some (.s (.bool false), r45.2)))
                    else
                    (some (.s (.bool false), r45.2)))
                  else
                  (some (.s (.bool false), r45.2)))
                else
                (some (.s (.bool false), r45.2)))
              else
              (some (.s (.bool false), r45.2)))
            else
            (some (.s (.bool false), r45.2)))
          else
          (some (.s (.bool false), r45.2)))
        else
        (some (.s (.bool false), r45.2)))
      else
      (some (.s (.bool false), r45.2))) else none) else none := by rw [← G6_10, ← G6_18, ← G6_20, ← G6_12]; kernel_rfl

/-! ### overdub/overdubref05.MayCoefs -/
noncomputable def G32 : FuncId → FunA := fun _ _ _ => none
def A32 : Ann := .two (.leaf) (.two (.two (.leaf) (.join [(0, .s)] [] [] (.loop [(6, .i .i64)] [0, 5] [0] (.two (.leaf) (.two (.two (.leaf) (.leaf)) (.two (.join [(0, .s), (5, .i .i64), (6, .i .i64)] [] [] (.two (.leaf) (.join [(20, .b)] [0, 5, 6] [] (.leaf) (.two (.two (.leaf) (.leaf)) (.leaf)))) .leaf) (.leaf))))) .leaf)) (.two (.leaf) (.leaf)))
def R32 : Slots := [(2, .b)]
noncomputable def overdubref05_MayCoefs : FunA := denF Try.prog G32 Try.f32 A32 R32
noncomputable def overdubref05_MayCoefs_L1_B (os vs : List AV) (μ : AMem) : Option Res := joinK [(6, .i .i64)] vs (envO [0, 5] os) fun e => den Try.prog G32 Try.f32.ntmps (cL (cL (cR (cL (cR (bodyOf Try.f32)))))) (aL (aL (aR (aL (aR A32))))) { ret := R32, exits := [(0, [(0, .s)])] } Res e μ fun ex e μ => some (ex, valsOf (Lv.at { ret := R32, exits := [(0, [(0, .s)])] } [(6, .i .i64)] ex) e, μ)
noncomputable def overdubref05_MayCoefs_L1 (os vs : List AV) (μ : AMem) : Option Res := loopA (overdubref05_MayCoefs_L1_B os) vs μ
theorem overdubref05_MayCoefs_L1_B_eq (s0 : SV) (s5 : Int) (s6 : Int) (μ : AMem) : overdubref05_MayCoefs_L1_B [.s s0, .s (.int .i64 s5)] [.s (.int .i64 s6)] μ =
  bif decide (s6 < s5) then
  (seqJ
    (indS 1 (.s s0) s6 fun p15 =>
      loadAt μ p15 fun v16 =>
      asI .i64 v16 fun n17 =>
      bif !(decide (n17 < (-32768))) then
      (indS 1 (.s s0) s6 fun p18 =>
        loadAt μ p18 fun v19 =>
        asI .i64 v19 fun n20 =>
        some (.normal, [.s (.bool (decide (n20 > 32767)))], μ))
      else
      (some (.normal, [.s (.bool true)], μ)))
    (fun vs21 m22 =>
      headK vs21 fun a23 r24 =>
      asB a23 fun b25 =>
      bif b25 then
      (some (.ret, [.s (.bool false)], m22))
      else
      (some (.normal, [.s (.int .i64 (IntKind.wrap .i64 (s6 + 1)))], m22)))
    (fun vs26 m27 =>
      headK vs26 fun a31 r32 =>
      asB a31 fun b33 =>
      some (.ret, [.s (.bool b33)], m27))
    (fun d30 vs28 m29 =>
      none))
  else
  (some (.exit 0, [.s s0], μ)) := by kernel_rfl
theorem overdubref05_MayCoefs_L1_eq (os vs : List AV) (μ : AMem) : overdubref05_MayCoefs_L1 os vs μ = (overdubref05_MayCoefs_L1_B os vs μ).bind fun r => match r.1 with | .normal => overdubref05_MayCoefs_L1 os r.2.1 r.2.2 | _ => some r := loopA_eq _ _ _
theorem overdubref05_MayCoefs_eq (p0 : SV) (μ : AMem) : overdubref05_MayCoefs [.s p0] μ =
  (lenS (.s p0)).bind fun l1 =>
  seqJ (overdubref05_MayCoefs_L1 [.s p0, .s (.int .i64 ((l1 : Nat) : Int))] [.s (.int .i64 0)] μ)
  (fun _ _ => none)
  (fun vs2 m3 =>
    headK vs2 fun a7 r8 =>
    asB a7 fun b9 =>
    some (.s (.bool b9), m3))
  (fun d6 vs4 m5 =>
    bif Nat.beq 0 d6 then (headK vs4 fun a10 r11 =>
      asS a10 fun x12 =>
      (lenS (.s x12)).bind fun l13 =>
      bif decide (((l13 : Nat) : Int) ≥ 1) then
      ((lenS (.s x12)).bind fun l14 =>
        some (.s (.bool (decide (((l14 : Nat) : Int) ≤ 12))), m5))
      else
      (some (.s (.bool false), m5))) else (none)) := by kernel_rfl

/-! ### overdub/overdubref05.May -/
noncomputable def G33 : FuncId → FunA := fun _ _ _ => none
def A33 : Ann := .two (.leaf) (.two (.two (.leaf) (.join [(0, .s)] [] [] (.loop [(6, .i .i64)] [0, 5] [0] (.two (.leaf) (.two (.two (.leaf) (.leaf)) (.two (.join [(0, .s), (5, .i .i64), (6, .i .i64)] [] [] (.two (.leaf) (.join [(20, .b)] [0, 5, 6] [] (.leaf) (.two (.two (.leaf) (.leaf)) (.leaf)))) .leaf) (.leaf))))) .leaf)) (.two (.two (.leaf) (.two (.two (.leaf) (.leaf)) (.leaf))) (.two (.leaf) (.leaf))))
def R33 : Slots := [(2, .i .i64)]
noncomputable def overdubref05_May : FunA := denF Try.prog G33 Try.f33 A33 R33
noncomputable def overdubref05_May_L1_B (os vs : List AV) (μ : AMem) : Option Res := joinK [(6, .i .i64)] vs (envO [0, 5] os) fun e => den Try.prog G33 Try.f33.ntmps (cL (cL (cR (cL (cR (bodyOf Try.f33)))))) (aL (aL (aR (aL (aR A33))))) { ret := R33, exits := [(0, [(0, .s)])] } Res e μ fun ex e μ => some (ex, valsOf (Lv.at { ret := R33, exits := [(0, [(0, .s)])] } [(6, .i .i64)] ex) e, μ)
noncomputable def overdubref05_May_L1 (os vs : List AV) (μ : AMem) : Option Res := loopA (overdubref05_May_L1_B os) vs μ
theorem overdubref05_May_L1_B_eq (s0 : SV) (s5 : Int) (s6 : Int) (μ : AMem) : overdubref05_May_L1_B [.s s0, .s (.int .i64 s5)] [.s (.int .i64 s6)] μ =
  bif decide (s6 < s5) then
  (seqJ
    (indS 1 (.s s0) s6 fun p14 =>
      loadAt μ p14 fun v15 =>
      asI .i64 v15 fun n16 =>
      bif !(decide (n16 < (-8388608))) then
      (indS 1 (.s s0) s6 fun p17 =>
        loadAt μ p17 fun v18 =>
        asI .i64 v18 fun n19 =>
        some (.normal, [.s (.bool (decide (n19 > 8388607)))], μ))
      else
      (some (.normal, [.s (.bool true)], μ)))
    (fun vs20 m21 =>
      headK vs20 fun a22 r23 =>
      asB a22 fun b24 =>
      bif b24 then
      (some (.ret, [.s (.int .i64 8)], m21))
      else
      (some (.normal, [.s (.int .i64 (IntKind.wrap .i64 (s6 + 1)))], m21)))
    (fun vs25 m26 =>
      headK vs25 fun a30 r31 =>
      asI .i64 a30 fun n32 =>
      some (.ret, [.s (.int .i64 n32)], m26))
    (fun d29 vs27 m28 =>
      none))
  else
  (some (.exit 0, [.s s0], μ)) := by kernel_rfl
theorem overdubref05_May_L1_eq (os vs : List AV) (μ : AMem) : overdubref05_May_L1 os vs μ = (overdubref05_May_L1_B os vs μ).bind fun r => match r.1 with | .normal => overdubref05_May_L1 os r.2.1 r.2.2 | _ => some r := loopA_eq _ _ _
theorem overdubref05_May_eq (p0 : SV) (μ : AMem) : overdubref05_May [.s p0] μ =
  (lenS (.s p0)).bind fun l1 =>
  seqJ (overdubref05_May_L1 [.s p0, .s (.int .i64 ((l1 : Nat) : Int))] [.s (.int .i64 0)] μ)
  (fun _ _ => none)
  (fun vs2 m3 =>
    headK vs2 fun a7 r8 =>
    asI .i64 a7 fun n9 =>
    some (.s (.int .i64 n9), m3))
  (fun d6 vs4 m5 =>
    bif Nat.beq 0 d6 then (headK vs4 fun a10 r11 =>
      asS a10 fun x12 =>
      (lenS (.s x12)).bind fun l13 =>
      bif decide (((l13 : Nat) : Int) > 64) then
      (some (.s (.int .i64 4), m5))
      else
      (some (.s (.int .i64 0), m5))) else (none)) := by kernel_rfl

/-! ### overdub/overdubref05.LpcResidual -/
noncomputable def G21 : FuncId → FunA := fun g => bif Nat.beq g 32 then overdubref05_MayCoefs else bif Nat.beq g 33 then overdubref05_May else bif Nat.beq g 14 then overdubref05_Guess else fun _ _ => none
theorem G21_32 : G21 32 = overdubref05_MayCoefs := by kernel_rfl
theorem G21_33 : G21 33 = overdubref05_May := by kernel_rfl
theorem G21_14 : G21 14 = overdubref05_Guess := by kernel_rfl
def A21 : Ann := .two (.leaf) (.two (.join [(18, .b)] [0, 1] [] (.leaf) (.two (.two (.leaf) (.leaf)) (.leaf))) (.two (.two (.leaf) (.two (.leaf) (.two (.two (.leaf) (.leaf)) (.leaf)))) (.two (.leaf) (.two (.two (.leaf) (.join [(7, .s)] [] [] (.loop [(7, .s), (8, .i .i64)] [0, 1] [0] (.two (.two (.leaf) (.two (.leaf) (.leaf))) (.two (.join [(0, .s), (1, .s), (7, .s), (8, .i .i64)] [] [] (.ord [0, 1, 2, 3, 4, 5, 6, 7, 8, 9, 10, 11, 12, 13]) .leaf) (.leaf)))) .leaf)) (.two (.leaf) (.leaf))))))
def R21 : Slots := [(4, .s), (5, .i .i64)]
noncomputable def overdubref05_LpcResidual : FunA := denF Try.prog G21 Try.f21 A21 R21
noncomputable def overdubref05_LpcResidual_L1_B (os vs : List AV) (μ : AMem) : Option Res := joinK [(7, .s), (8, .i .i64)] vs (envO [0, 1] os) fun e => den Try.prog G21 Try.f21.ntmps (cL (cL (cR (cL (cR (cR (cR (cR (bodyOf Try.f21))))))))) (aL (aL (aR (aL (aR (aR (aR (aR A21)))))))) { ret := R21, exits := [(0, [(7, .s)])] } Res e μ fun ex e μ => some (ex, valsOf (Lv.at { ret := R21, exits := [(0, [(7, .s)])] } [(7, .s), (8, .i .i64)] ex) e, μ)
noncomputable def overdubref05_LpcResidual_L1 (os vs : List AV) (μ : AMem) : Option Res := loopA (overdubref05_LpcResidual_L1_B os) vs μ
theorem overdubref05_LpcResidual_L1_B_eq (s0 : SV) (s1 : SV) (s7 : SV) (s8 : Int) (μ : AMem) : overdubref05_LpcResidual_L1_B [.s s0, .s s1] [.s s7, .s (.int .i64 s8)] μ =
  (lenS (.s s0)).bind fun l38 =>
  bif decide (s8 < ((l38 : Nat) : Int)) then
  (indS 1 (.s s0) s8 fun p39 =>
    loadAt (μ.bump 14) p39 fun v40 =>
    asI .i64 v40 fun n41 =>
    cutS 1 (.s s0) 0 s8 fun x42 =>
    (overdubref05_Guess [x42, .s s1] (μ.bump 14)).bind fun r43 =>
    asI .i64 r43.1 fun n44 =>
    checkA (loadAt r43.2 p39 some = some (.s (.int .i64 n41)))
    (checkA (r43.2.obj (μ.next + 11) = none)
      (appendA 3 1 8 (μ.next + 12) (r43.2.set (μ.next + 11) (rowObj [.int .i64 (IntKind.wrap .i64 (n41 - n44))] 1 3 (some 1))) (.s s7) (.s (.slice (μ.next + 11) 0 0 1)) fun x45 m46 =>
        asS x45 fun x47 =>
        some (.normal, [.s x47, .s (.int .i64 (IntKind.wrap .i64 (s8 + 1)))], m46))))
  else
  (some (.exit 0, [.s s7], μ)) := by rw [← G21_14]; kernel_rfl
theorem overdubref05_LpcResidual_L1_eq (os vs : List AV) (μ : AMem) : overdubref05_LpcResidual_L1 os vs μ = (overdubref05_LpcResidual_L1_B os vs μ).bind fun r => match r.1 with | .normal => overdubref05_LpcResidual_L1 os r.2.1 r.2.2 | _ => some r := loopA_eq _ _ _
theorem overdubref05_LpcResidual_eq (p0 : SV) (p1 : SV) (μ : AMem) : overdubref05_LpcResidual [.s p0, .s p1] μ =
  seqJ
  ((overdubref05_MayCoefs [.s p1] μ).bind fun r1 =>
    asB r1.1 fun b2 =>
    bif !(!b2) then
    ((lenS (.s p0)).bind fun l3 =>
      (lenS (.s p1)).bind fun l4 =>
      some (.normal, [.s (.bool (decide (((l3 : Nat) : Int) < ((l4 : Nat) : Int))))], r1.2))
    else
    (some (.normal, [.s (.bool true)], r1.2)))
  (fun vs5 m6 =>
    headK vs5 fun a7 r8 =>
    asB a7 fun b9 =>
    bif b9 then
    (some (.tuple [.s .nilSlice, .s (.int .i64 1)], m6))
    else
    ((overdubref05_May [.s p0] m6).bind fun r10 =>
      asI .i64 r10.1 fun n11 =>
      bif (n11 != 0) then
      (some (.tuple [.s .nilSlice, .s (.int .i64 n11)], r10.2))
      else
      ((lenS (.s p1)).bind fun l12 =>
        seqJ (overdubref05_LpcResidual_L1 [.s p0, .s p1] [.s .nilSlice, .s (.int .i64 ((l12 : Nat) : Int))] r10.2)
        (fun _ _ => none)
        (fun vs13 m14 =>
          headK vs13 fun a18 r19 =>
          asS a18 fun x20 =>
          headK r19 fun a21 r22 =>
          asI .i64 a21 fun n23 =>
          some (.tuple [.s x20, .s (.int .i64 n23)], m14))
        (fun d17 vs15 m16 =>
          bif Nat.beq 0 d17 then (headK vs15 fun a24 r25 =>
            asS a24 fun x26 =>
            some (.tuple [.s x26, .s (.int .i64 0)], m16)) else (none)))))
  (fun vs27 m28 =>
    headK vs27 fun a32 r33 =>
    asS a32 fun x34 =>
    headK r33 fun a35 r36 =>
    asI .i64 a35 fun n37 =>
    some (.tuple [.s x34, .s (.int .i64 n37)], m28))
  (fun d31 vs29 m30 =>
    none) := by rw [← G21_32, ← G21_33]; kernel_rfl

/-! ### overdub/overdubref05.LpcRestore -/
noncomputable def G22 : FuncId → FunA := fun g => bif Nat.beq g 32 then overdubref05_MayCoefs else bif Nat.beq g 33 then overdubref05_May else bif Nat.beq g 14 then overdubref05_Guess else fun _ _ => none
theorem G22_32 : G22 32 = overdubref05_MayCoefs := by kernel_rfl
theorem G22_33 : G22 33 = overdubref05_May := by kernel_rfl
theorem G22_14 : G22 14 = overdubref05_Guess := by kernel_rfl
def A22 : Ann := .two (.leaf) (.two (.join [(21, .b)] [0, 1, 2] [] (.leaf) (.two (.two (.leaf) (.leaf)) (.leaf))) (.two (.two (.leaf) (.two (.leaf) (.two (.two (.leaf) (.leaf)) (.leaf)))) (.two (.leaf) (.two (.two (.leaf) (.join [(9, .s)] [] [] (.loop [(9, .s), (31, .i .i64)] [1, 2, 30] [0] (.two (.leaf) (.two (.two (.leaf) (.leaf)) (.two (.join [(1, .s), (2, .s), (9, .s), (30, .i .i64), (31, .i .i64)] [] [] (.two (.leaf) (.two (.join [(45, .b)] [1, 2, 9, 10, 30, 31] [] (.leaf) (.two (.two (.leaf) (.leaf)) (.leaf))) (.two (.ord [0, 1, 3, 4, 5, 6, 2, 7, 8]) (.two (.join [(59, .b)] [1, 2, 9, 11, 30, 31] [] (.leaf) (.two (.two (.leaf) (.leaf)) (.leaf))) (.leaf))))) .leaf) (.leaf))))) .leaf)) (.two (.two (.leaf) (.two (.two (.leaf) (.leaf)) (.leaf))) (.two (.leaf) (.leaf)))))))
def R22 : Slots := [(6, .s), (7, .i .i64)]
noncomputable def overdubref05_LpcRestore : FunA := denF Try.prog G22 Try.f22 A22 R22
noncomputable def overdubref05_LpcRestore_L1_B (os vs : List AV) (μ : AMem) : Option Res := joinK [(9, .s), (31, .i .i64)] vs (envO [1, 2, 30] os) fun e => den Try.prog G22 Try.f22.ntmps (cL (cL (cR (cL (cR (cR (cR (cR (bodyOf Try.f22))))))))) (aL (aL (aR (aL (aR (aR (aR (aR A22)))))))) { ret := R22, exits := [(0, [(9, .s)])] } Res e μ fun ex e μ => some (ex, valsOf (Lv.at { ret := R22, exits := [(0, [(9, .s)])] } [(9, .s), (31, .i .i64)] ex) e, μ)
noncomputable def overdubref05_LpcRestore_L1 (os vs : List AV) (μ : AMem) : Option Res := loopA (overdubref05_LpcRestore_L1_B os) vs μ
theorem overdubref05_LpcRestore_L1_B_eq (s1 : SV) (s2 : SV) (s30 : Int) (s9 : SV) (s31 : Int) (μ : AMem) : overdubref05_LpcRestore_L1_B [.s s1, .s s2, .s (.int .i64 s30)] [.s s9, .s (.int .i64 s31)] μ =
  bif decide (s31 < s30) then
  (seqJ
    (indS 1 (.s s1) s31 fun p42 =>
      loadAt μ p42 fun v43 =>
      asI .i64 v43 fun n44 =>
      bif !(decide (n44 < (-1099511627776))) then
      (indS 1 (.s s1) s31 fun p45 =>
        loadAt μ p45 fun v46 =>
        asI .i64 v46 fun n47 =>
        some (.normal, [.s (.bool (decide (n47 > 1099511627776)))], μ))
      else
      (some (.normal, [.s (.bool true)], μ)))
    (fun vs48 m49 =>
      headK vs48 fun a50 r51 =>
      asB a50 fun b52 =>
      bif b52 then
      (some (.ret, [.s .nilSlice, .s (.int .i64 8)], m49))
      else
      (indS 1 (.s s1) s31 fun p53 =>
        loadAt m49 p53 fun v54 =>
        asI .i64 v54 fun n55 =>
        (overdubref05_Guess [.s s9, .s s2] m49).bind fun r56 =>
        asI .i64 r56.1 fun n57 =>
        checkA (loadAt r56.2 p53 some = some (.s (.int .i64 n55)))
        (seqJ
          (bif !(decide ((IntKind.wrap .i64 (n57 + n55)) < (-8388608))) then
            (some (.normal, [.s (.bool (decide ((IntKind.wrap .i64 (n57 + n55)) > 8388607)))], r56.2))
            else
            (some (.normal, [.s (.bool true)], r56.2)))
          (fun vs58 m59 =>
            headK vs58 fun a60 r61 =>
            asB a60 fun b62 =>
            bif b62 then
            (some (.ret, [.s .nilSlice, .s (.int .i64 8)], m59))
            else
            (appendA 3 1 8 (m59.next + 3) ((m59.bump 5).set (m59.next + 2) (rowObj [.int .i64 (IntKind.wrap .i64 (n57 + n55))] 1 3 (some 1))) (.s s9) (.s (.slice (m59.next + 2) 0 0 1)) fun x63 m64 =>
              asS x63 fun x65 =>
              some (.normal, [.s x65, .s (.int .i64 (IntKind.wrap .i64 (s31 + 1)))], m64)))
          (fun vs66 m67 =>
            headK vs66 fun a71 r72 =>
            asS a71 fun x73 =>
            headK r72 fun a74 r75 =>
            asI .i64 a74 fun n76 =>
            some (.ret, [.s x73, .s (.int .i64 n76)], m67))
          (fun d70 vs68 m69 =>
            none))))
    (fun vs77 m78 =>
      headK vs77 fun a82 r83 =>
      asS a82 fun x84 =>
      headK r83 fun a85 r86 =>
      asI .i64 a85 fun n87 =>
      some (.ret, [.s x84, .s (.int .i64 n87)], m78))
    (fun d81 vs79 m80 =>
      none))
  else
  (some (.exit 0, [.s s9], μ)) := by rw [← G22_14]; kernel_rfl
theorem overdubref05_LpcRestore_L1_eq (os vs : List AV) (μ : AMem) : overdubref05_LpcRestore_L1 os vs μ = (overdubref05_LpcRestore_L1_B os vs μ).bind fun r => match r.1 with | .normal => overdubref05_LpcRestore_L1 os r.2.1 r.2.2 | _ => some r := loopA_eq _ _ _
theorem overdubref05_LpcRestore_eq (p0 : SV) (p1 : SV) (p2 : SV) (μ : AMem) : overdubref05_LpcRestore [.s p0, .s p1, .s p2] μ =
  seqJ
  ((overdubref05_MayCoefs [.s p2] μ).bind fun r1 =>
    asB r1.1 fun b2 =>
    bif !(!b2) then
    ((lenS (.s p0)).bind fun l3 =>
      (lenS (.s p2)).bind fun l4 =>
      some (.normal, [.s (.bool (((l3 : Nat) : Int) != ((l4 : Nat) : Int)))], r1.2))
    else
    (some (.normal, [.s (.bool true)], r1.2)))
  (fun vs5 m6 =>
    headK vs5 fun a7 r8 =>
    asB a7 fun b9 =>
    bif b9 then
    (some (.tuple [.s .nilSlice, .s (.int .i64 1)], m6))
    else
    ((overdubref05_May [.s p0] m6).bind fun r10 =>
      asI .i64 r10.1 fun n11 =>
      bif (n11 != 0) then
      (some (.tuple [.s .nilSlice, .s (.int .i64 n11)], r10.2))
      else
      (appendA 3 1 8 (r10.2.next + 1) (r10.2.bump 3) (.s .nilSlice) (.s p0) fun x12 m13 =>
        asS x12 fun x14 =>
        (lenS (.s p1)).bind fun l15 =>
        seqJ (overdubref05_LpcRestore_L1 [.s p1, .s p2, .s (.int .i64 ((l15 : Nat) : Int))] [.s x14, .s (.int .i64 0)] m13)
        (fun _ _ => none)
        (fun vs16 m17 =>
          headK vs16 fun a21 r22 =>
          asS a21 fun x23 =>
          headK r22 fun a24 r25 =>
          asI .i64 a24 fun n26 =>
          some (.tuple [.s x23, .s (.int .i64 n26)], m17))
        (fun d20 vs18 m19 =>
          bif Nat.beq 0 d20 then (headK vs18 fun a27 r28 =>
            asS a27 fun x29 =>
            (lenS (.s x29)).bind fun l30 =>
            bif decide (((l30 : Nat) : Int) > 64) then
            (some (.tuple [.s .nilSlice, .s (.int .i64 4)], m19))
            else
            (some (.tuple [.s x29, .s (.int .i64 0)], m19))) else (none)))))
  (fun vs31 m32 =>
    headK vs31 fun a36 r37 =>
    asS a36 fun x38 =>
    headK r37 fun a39 r40 =>
    asI .i64 a39 fun n41 =>
    some (.tuple [.s x38, .s (.int .i64 n41)], m32))
  (fun d35 vs33 m34 =>
    none) := by rw [← G22_32, ← G22_33]; kernel_rfl

/-! ### overdub/overdublaw06.LpcResiduals -/
noncomputable def G7 : FuncId → FunA := fun g => bif Nat.beq g 15 then overdubkeep_Samples else bif Nat.beq g 16 then overdublaw06_coefs else bif Nat.beq g 18 then lpc_Residual else bif Nat.beq g 21 then overdubref05_LpcResidual else bif Nat.beq g 19 then overdubkeep_Same_int else bif Nat.beq g 13 then overdubkeep_Cut_int else bif Nat.beq g 10 then overdubkeep_Within else bif Nat.beq g 20 then lpc_Restore else bif Nat.beq g 22 then overdubref05_LpcRestore else bif Nat.beq g 12 then overdublaw06_wakes else fun _ _ => none
theorem G7_15 : G7 15 = overdubkeep_Samples := by kernel_rfl
theorem G7_16 : G7 16 = overdublaw06_coefs := by kernel_rfl
theorem G7_18 : G7 18 = lpc_Residual := by kernel_rfl
theorem G7_21 : G7 21 = overdubref05_LpcResidual := by kernel_rfl
theorem G7_19 : G7 19 = overdubkeep_Same_int := by kernel_rfl
theorem G7_13 : G7 13 = overdubkeep_Cut_int := by kernel_rfl
theorem G7_10 : G7 10 = overdubkeep_Within := by kernel_rfl
theorem G7_20 : G7 20 = lpc_Restore := by kernel_rfl
theorem G7_22 : G7 22 = overdubref05_LpcRestore := by kernel_rfl
theorem G7_12 : G7 12 = overdublaw06_wakes := by kernel_rfl
def A7 : Ann := .two (.leaf) (.two (.leaf) (.two (.leaf) (.two (.leaf) (.two (.join [(48, .b)] [0, 1, 2, 5] [] (.leaf) (.two (.two (.leaf) (.leaf)) (.leaf))) (.two (.leaf) (.two (.leaf) (.two (.leaf) (.two (.leaf) (.two (.leaf) (.leaf))))))))))
def R7 : Slots := [(12, .b)]
noncomputable def overdublaw06_LpcResiduals : FunA := denF Try.prog G7 Try.f7 A7 R7
theorem overdublaw06_LpcResiduals_eq (p0 : SV) (p1 : SV) (p2 : SV) (p3 : Bool) (p4 : Bool) (p5 : Int) (μ : AMem) : overdublaw06_LpcResiduals [.s p0, .s p1, .s p2, .s (.bool p3), .s (.bool p4), .s (.int .i64 p5)] μ =
  (overdubkeep_Samples [.s p0, .s (.int .i64 70), .s (.bool p3)] μ).bind fun r1 =>
  asS r1.1 fun x2 =>
  (overdublaw06_coefs [.s p1, .s (.bool p4)] r1.2).bind fun r3 =>
  asS r3.1 fun x4 =>
  (lpc_Residual [.s x2, .s x4] r3.2).bind fun r5 =>
  extrK 0 r5.1 fun t6 =>
  asS t6 fun x7 =>
  extrK 1 r5.1 fun t8 =>
  asI .i64 t8 fun n9 =>
  (overdubref05_LpcResidual [.s x2, .s x4] r5.2).bind fun r10 =>
  extrK 0 r10.1 fun t11 =>
  asS t11 fun x12 =>
  extrK 1 r10.1 fun t13 =>
  asI .i64 t13 fun n14 =>
  seqJ
  (bif !(n9 != n14) then
    ((overdubkeep_Same_int [.s x7, .s x12] r10.2).bind fun r15 =>
      asB r15.1 fun b16 =>
      some (.normal, [.s (.bool (!b16))], r15.2))
    else
    (some (.normal, [.s (.bool true)], r10.2)))
  (fun vs17 m18 =>
    headK vs17 fun a19 r20 =>
    asB a19 fun b21 =>
    bif b21 then
    (some (.s (.bool false), m18))
    else
    ((overdubkeep_Cut_int [.s p2, .s (.int .i64 70)] m18).bind fun r22 =>
      asS r22.1 fun x23 =>
      (lenS (.s x4)).bind fun l24 =>
      (overdubkeep_Within [.s (.int .i64 p5), .s (.int .i64 3)] r22.2).bind fun r25 =>
      asI .i64 r25.1 fun n26 =>
      (overdubkeep_Cut_int [.s x2, .s (.int .i64 (if 0 > (IntKind.wrap .i64 ((IntKind.wrap .i64 (((l24 : Nat) : Int) + n26)) - 1)) then 0 else (IntKind.wrap .i64 ((IntKind.wrap .i64 (((l24 : Nat) : Int) + n26)) - 1))))] r25.2).bind fun r27 =>
      asS r27.1 fun x28 =>
      (lpc_Restore [.s x28, .s x23, .s x4] r27.2).bind fun r29 =>
      extrK 0 r29.1 fun t30 =>
      asS t30 fun x31 =>
      extrK 1 r29.1 fun t32 =>
      asI .i64 t32 fun n33 =>
      (overdubref05_LpcRestore [.s x28, .s x23, .s x4] r29.2).bind fun r34 =>
      extrK 0 r34.1 fun t35 =>
      asS t35 fun x36 =>
      extrK 1 r34.1 fun t37 =>
      asI .i64 t37 fun n38 =>
      bif (n33 == n38) then
      ((overdubkeep_Same_int [.s x31, .s x36] r34.2).bind fun r39 =>
        asB r39.1 fun b40 =>
        bif b40 then
        ((overdublaw06_wakes [] r39.2).bind fun r41 =>
          asB r41.1 fun b42 =>
          some (.s (.bool b42), r41.2))
        else
        (some (.s (.bool false), r39.2)))
      else
      (some (.s (.bool false), r34.2))))
  (fun vs43 m44 =>
    headK vs43 fun a48 r49 =>
    asB a48 fun b50 =>
    some (.s (.bool b50), m44))
  (fun d47 vs45 m46 =>
    none) := by rw [← G7_15, ← G7_16, ← G7_18, ← G7_21, ← G7_19, ← G7_13, ← G7_10, ← G7_20, ← G7_22, ← G7_12]; kernel_rfl

/-! ### overdub/overdublaw06.LpcBack -/
noncomputable def G8 : FuncId → FunA := fun g => bif Nat.beq g 15 then overdubkeep_Samples else bif Nat.beq g 16 then overdublaw06_coefs else bif Nat.beq g 13 then overdubkeep_Cut_int else bif Nat.beq g 18 then lpc_Residual else bif Nat.beq g 12 then overdublaw06_wakes else bif Nat.beq g 20 then lpc_Restore else bif Nat.beq g 19 then overdubkeep_Same_int else fun _ _ => none
theorem G8_15 : G8 15 = overdubkeep_Samples := by kernel_rfl
theorem G8_16 : G8 16 = overdublaw06_coefs := by kernel_rfl
theorem G8_13 : G8 13 = overdubkeep_Cut_int := by kernel_rfl
theorem G8_18 : G8 18 = lpc_Residual := by kernel_rfl
theorem G8_12 : G8 12 = overdublaw06_wakes := by kernel_rfl
theorem G8_20 : G8 20 = lpc_Restore := by kernel_rfl
theorem G8_19 : G8 19 = overdubkeep_Same_int := by kernel_rfl
def A8 : Ann := .two (.leaf) (.two (.leaf) (.two (.join [(25, .b)] [0, 1] [] (.leaf) (.two (.two (.leaf) (.two (.leaf) (.leaf))) (.leaf))) (.two (.leaf) (.two (.leaf) (.two (.leaf) (.leaf))))))
def R8 : Slots := [(4, .b)]
noncomputable def overdublaw06_LpcBack : FunA := denF Try.prog G8 Try.f8 A8 R8
theorem overdublaw06_LpcBack_eq (p0 : SV) (p1 : SV) (μ : AMem) : overdublaw06_LpcBack [.s p0, .s p1] μ =
  (overdubkeep_Samples [.s p0, .s (.int .i64 64), .s (.bool false)] μ).bind fun r1 =>
  asS r1.1 fun x2 =>
  (overdublaw06_coefs [.s p1, .s (.bool false)] r1.2).bind fun r3 =>
  asS r3.1 fun x4 =>
  (overdubkeep_Cut_int [.s x4, .s (.int .i64 12)] r3.2).bind fun r5 =>
  asS r5.1 fun x6 =>
  seqJ
  ((lenS (.s x6)).bind fun l7 =>
    bif !(((l7 : Nat) : Int) == 0) then
    ((lenS (.s x2)).bind fun l8 =>
      (lenS (.s x6)).bind fun l9 =>
      some (.normal, [.s (.bool (decide (((l8 : Nat) : Int) < ((l9 : Nat) : Int))))], r5.2))
    else
    (some (.normal, [.s (.bool true)], r5.2)))
  (fun vs10 m11 =>
    headK vs10 fun a12 r13 =>
    asB a12 fun b14 =>
    bif b14 then
    ((lpc_Residual [.s x2, .s x6] m11).bind fun r15 =>
      extrK 0 r15.1 fun t16 =>
      asS t16 fun x17 =>
      extrK 1 r15.1 fun t18 =>
      asI .i64 t18 fun n19 =>
      bif (n19 == 1) then
      ((overdublaw06_wakes [] r15.2).bind fun r20 =>
        asB r20.1 fun b21 =>
        some (.s (.bool b21), r20.2))
      else
      (some (.s (.bool false), r15.2)))
    else
    ((lpc_Residual [.s x2, .s x6] m11).bind fun r22 =>
      extrK 0 r22.1 fun t23 =>
      asS t23 fun x24 =>
      extrK 1 r22.1 fun t25 =>
      asI .i64 t25 fun n26 =>
      (lenS (.s x6)).bind fun l27 =>
      cutS 1 (.s x2) 0 ((l27 : Nat) : Int) fun x28 =>
      (lpc_Restore [x28, .s x24, .s x6] r22.2).bind fun r29 =>
      extrK 0 r29.1 fun t30 =>
      asS t30 fun x31 =>
      extrK 1 r29.1 fun t32 =>
      asI .i64 t32 fun n33 =>
      bif (n26 == 0) then
      (bif (n33 == 0) then
        ((overdubkeep_Same_int [.s x31, .s x2] r29.2).bind fun r34 =>
          asB r34.1 fun b35 =>
          bif b35 then
          ((overdublaw06_wakes [] r34.2).bind fun r36 =>
            asB r36.1 fun b37 =>
            some (.s (.bool b37), r36.2))
          else
          (some (.s (.bool false), r34.2)))
        else
        (some (.s (.bool false), r29.2)))
      else
      (some (.s (.bool false), r29.2))))
  (fun vs38 m39 =>
    headK vs38 fun a43 r44 =>
    asB a43 fun b45 =>
    some (.s (.bool b45), m39))
  (fun d42 vs40 m41 =>
    none) := by rw [← G8_15, ← G8_16, ← G8_13, ← G8_18, ← G8_12, ← G8_20, ← G8_19]; kernel_rfl

/-! ### overdub/fixed.Coefficients -/
noncomputable def G23 : FuncId → FunA := fun _ _ _ => none
def A23 : Ann := .two (.leaf) (.two (.two (.leaf) (.join [] [] [] (.two (.leaf) (.two (.two (.leaf) (.leaf)) (.two (.leaf) (.two (.two (.leaf) (.leaf)) (.two (.leaf) (.two (.two (.leaf) (.leaf)) (.two (.leaf) (.two (.two (.leaf) (.leaf)) (.leaf))))))))) .leaf)) (.two (.leaf) (.leaf)))
def R23 : Slots := [(2, .s)]
noncomputable def fixed_Coefficients : FunA := denF Try.prog G23 Try.f23 A23 R23
theorem fixed_Coefficients_eq (p0 : Int) (μ : AMem) : fixed_Coefficients [.s (.int .i64 p0)] μ =
  bif (p0 == 1) then
  (some (.s (.slice (μ.next + 0) 0 0 1), ((μ.bump 2).set (μ.next + 0) (rowObj [.int .i64 1] 1 3 (some 1)))))
  else
  (bif (p0 == 2) then
    (some (.s (.slice (μ.next + 0) 0 0 2), ((μ.bump 2).set (μ.next + 0) (rowObj [.int .i64 2, .int .i64 (-1)] 1 3 (some 2)))))
    else
    (bif (p0 == 3) then
      (some (.s (.slice (μ.next + 0) 0 0 3), ((μ.bump 2).set (μ.next + 0) (rowObj [.int .i64 3, .int .i64 (-3), .int .i64 1] 1 3 (some 3)))))
      else
      (bif (p0 == 4) then
        (some (.s (.slice (μ.next + 0) 0 0 4), ((μ.bump 2).set (μ.next + 0) (rowObj [.int .i64 4, .int .i64 (-6), .int .i64 4, .int .i64 (-1)] 1 3 (some 4)))))
        else
        (some (.s .nilSlice, μ))))) := by kernel_rfl

/-! ### overdub/fixed.guess -/
noncomputable def G34 : FuncId → FunA := fun _ _ _ => none
def A34 : Ann := .two (.leaf) (.two (.leaf) (.two (.two (.leaf) (.join [(5, .i .i64)] [] [] (.loop [(5, .i .i64), (10, .i .i64)] [0, 8, 9] [0] (.two (.leaf) (.two (.two (.leaf) (.leaf)) (.two (.join [(0, .s), (5, .i .i64), (8, .s), (9, .i .i64), (10, .i .i64)] [] [] (.two (.leaf) (.leaf)) .leaf) (.leaf))))) .leaf)) (.two (.leaf) (.leaf))))
def R34 : Slots := [(4, .i .i64)]
noncomputable def fixed_guess : FunA := denF Try.prog G34 Try.f34 A34 R34
noncomputable def fixed_guess_L1_B (os vs : List AV) (μ : AMem) : Option Res := joinK [(5, .i .i64), (10, .i .i64)] vs (envO [0, 8, 9] os) fun e => den Try.prog G34 Try.f34.ntmps (cL (cL (cR (cL (cR (cR (bodyOf Try.f34))))))) (aL (aL (aR (aL (aR (aR A34)))))) { ret := R34, exits := [(0, [(5, .i .i64)])] } Res e μ fun ex e μ => some (ex, valsOf (Lv.at { ret := R34, exits := [(0, [(5, .i .i64)])] } [(5, .i .i64), (10, .i .i64)] ex) e, μ)
noncomputable def fixed_guess_L1 (os vs : List AV) (μ : AMem) : Option Res := loopA (fixed_guess_L1_B os) vs μ
theorem fixed_guess_L1_B_eq (s0 : SV) (s8 : SV) (s9 : Int) (s5 : Int) (s10 : Int) (μ : AMem) : fixed_guess_L1_B [.s s0, .s s8, .s (.int .i64 s9)] [.s (.int .i64 s5), .s (.int .i64 s10)] μ =
  bif decide (s10 < s9) then
  (indS 1 (.s s8) s10 fun p13 =>
    loadAt μ p13 fun v14 =>
    asI .i64 v14 fun n15 =>
    (lenS (.s s0)).bind fun l16 =>
    indS 1 (.s s0) (IntKind.wrap .i64 ((IntKind.wrap .i64 (((l16 : Nat) : Int) - 1)) - s10)) fun p17 =>
    loadAt μ p17 fun v18 =>
    asI .i64 v18 fun n19 =>
    some (.normal, [.s (.int .i64 (IntKind.wrap .i64 (s5 + (IntKind.wrap .i64 (n15 * n19))))), .s (.int .i64 (IntKind.wrap .i64 (s10 + 1)))], μ))
  else
  (some (.exit 0, [.s (.int .i64 s5)], μ)) := by kernel_rfl
theorem fixed_guess_L1_eq (os vs : List AV) (μ : AMem) : fixed_guess_L1 os vs μ = (fixed_guess_L1_B os vs μ).bind fun r => match r.1 with | .normal => fixed_guess_L1 os r.2.1 r.2.2 | _ => some r := loopA_eq _ _ _
theorem fixed_guess_eq (p0 : SV) (p1 : SV) (μ : AMem) : fixed_guess [.s p0, .s p1] μ =
  (lenS (.s p1)).bind fun l1 =>
  seqJ (fixed_guess_L1 [.s p0, .s p1, .s (.int .i64 ((l1 : Nat) : Int))] [.s (.int .i64 0), .s (.int .i64 0)] μ)
  (fun _ _ => none)
  (fun vs2 m3 =>
    headK vs2 fun a7 r8 =>
    asI .i64 a7 fun n9 =>
    some (.s (.int .i64 n9), m3))
  (fun d6 vs4 m5 =>
    bif Nat.beq 0 d6 then (headK vs4 fun a10 r11 =>
      asI .i64 a10 fun n12 =>
      some (.s (.int .i64 n12), m5)) else (none)) := by kernel_rfl

/-! ### overdub/fixed.Residual -/
noncomputable def G24 : FuncId → FunA := fun g => bif Nat.beq g 29 then fixed_Check else bif Nat.beq g 23 then fixed_Coefficients else bif Nat.beq g 34 then fixed_guess else fun _ _ => none
theorem G24_29 : G24 29 = fixed_Check := by kernel_rfl
theorem G24_23 : G24 23 = fixed_Coefficients := by kernel_rfl
theorem G24_34 : G24 34 = fixed_guess := by kernel_rfl
def A24 : Ann := .two (.leaf) (.two (.join [(21, .b)] [0, 1] [] (.leaf) (.two (.two (.leaf) (.leaf)) (.leaf))) (.two (.two (.leaf) (.two (.leaf) (.two (.two (.leaf) (.leaf)) (.leaf)))) (.two (.leaf) (.two (.leaf) (.two (.two (.leaf) (.join [(8, .s)] [] [] (.loop [(8, .s), (9, .i .i64)] [0, 7] [0] (.two (.two (.leaf) (.two (.leaf) (.leaf))) (.two (.join [(0, .s), (7, .s), (8, .s), (9, .i .i64)] [] [] (.ord [0, 1, 2, 3, 4, 5, 6, 7, 8, 9, 10, 11, 12, 13]) .leaf) (.leaf)))) .leaf)) (.two (.leaf) (.leaf)))))))
def R24 : Slots := [(4, .s), (5, .i .i64)]
noncomputable def fixed_Residual : FunA := denF Try.prog G24 Try.f24 A24 R24
noncomputable def fixed_Residual_L1_B (os vs : List AV) (μ : AMem) : Option Res := joinK [(8, .s), (9, .i .i64)] vs (envO [0, 7] os) fun e => den Try.prog G24 Try.f24.ntmps (cL (cL (cR (cL (cR (cR (cR (cR (cR (bodyOf Try.f24)))))))))) (aL (aL (aR (aL (aR (aR (aR (aR (aR A24))))))))) { ret := R24, exits := [(0, [(8, .s)])] } Res e μ fun ex e μ => some (ex, valsOf (Lv.at { ret := R24, exits := [(0, [(8, .s)])] } [(8, .s), (9, .i .i64)] ex) e, μ)
noncomputable def fixed_Residual_L1 (os vs : List AV) (μ : AMem) : Option Res := loopA (fixed_Residual_L1_B os) vs μ
theorem fixed_Residual_L1_B_eq (s0 : SV) (s7 : SV) (s8 : SV) (s9 : Int) (μ : AMem) : fixed_Residual_L1_B [.s s0, .s s7] [.s s8, .s (.int .i64 s9)] μ =
  (lenS (.s s0)).bind fun l36 =>
  bif decide (s9 < ((l36 : Nat) : Int)) then
  (indS 1 (.s s0) s9 fun p37 =>
    loadAt (μ.bump 14) p37 fun v38 =>
    asI .i64 v38 fun n39 =>
    cutS 1 (.s s0) 0 s9 fun x40 =>
    (fixed_guess [x40, .s s7] (μ.bump 14)).bind fun r41 =>
    asI .i64 r41.1 fun n42 =>
    checkA (loadAt r41.2 p37 some = some (.s (.int .i64 n39)))
    (checkA (r41.2.obj (μ.next + 11) = none)
      (appendA 3 1 8 (μ.next + 12) (r41.2.set (μ.next + 11) (rowObj [.int .i64 (IntKind.wrap .i64 (n39 - n42))] 1 3 (some 1))) (.s s8) (.s (.slice (μ.next + 11) 0 0 1)) fun x43 m44 =>
        asS x43 fun x45 =>
        some (.normal, [.s x45, .s (.int .i64 (IntKind.wrap .i64 (s9 + 1)))], m44))))
  else
  (some (.exit 0, [.s s8], μ)) := by rw [← G24_34]; kernel_rfl
theorem fixed_Residual_L1_eq (os vs : List AV) (μ : AMem) : fixed_Residual_L1 os vs μ = (fixed_Residual_L1_B os vs μ).bind fun r => match r.1 with | .normal => fixed_Residual_L1 os r.2.1 r.2.2 | _ => some r := loopA_eq _ _ _
theorem fixed_Residual_eq (p0 : SV) (p1 : Int) (μ : AMem) : fixed_Residual [.s p0, .s (.int .i64 p1)] μ =
  seqJ
  (bif !(decide (p1 < 0)) then
    (bif !(decide (p1 > 4)) then
      ((lenS (.s p0)).bind fun l1 =>
        some (.normal, [.s (.bool (decide (p1 > ((l1 : Nat) : Int))))], μ))
      else
      (some (.normal, [.s (.bool true)], μ)))
    else
    (some (.normal, [.s (.bool true)], μ)))
  (fun vs2 m3 =>
    headK vs2 fun a4 r5 =>
    asB a4 fun b6 =>
    bif b6 then
    (some (.tuple [.s .nilSlice, .s (.int .i64 1)], m3))
    else
    ((fixed_Check [.s p0] m3).bind fun r7 =>
      asI .i64 r7.1 fun n8 =>
      bif (n8 != 0) then
      (some (.tuple [.s .nilSlice, .s (.int .i64 n8)], r7.2))
      else
      ((fixed_Coefficients [.s (.int .i64 p1)] r7.2).bind fun r9 =>
        asS r9.1 fun x10 =>
        seqJ (fixed_Residual_L1 [.s p0, .s x10] [.s .nilSlice, .s (.int .i64 p1)] r9.2)
        (fun _ _ => none)
        (fun vs11 m12 =>
          headK vs11 fun a16 r17 =>
          asS a16 fun x18 =>
          headK r17 fun a19 r20 =>
          asI .i64 a19 fun n21 =>
          some (.tuple [.s x18, .s (.int .i64 n21)], m12))
        (fun d15 vs13 m14 =>
          bif Nat.beq 0 d15 then (headK vs13 fun a22 r23 =>
            asS a22 fun x24 =>
            some (.tuple [.s x24, .s (.int .i64 0)], m14)) else (none)))))
  (fun vs25 m26 =>
    headK vs25 fun a30 r31 =>
    asS a30 fun x32 =>
    headK r31 fun a33 r34 =>
    asI .i64 a33 fun n35 =>
    some (.tuple [.s x32, .s (.int .i64 n35)], m26))
  (fun d29 vs27 m28 =>
    none) := by rw [← G24_29, ← G24_23]; kernel_rfl

/-! ### overdub/overdublaw06.LpcFixed -/
noncomputable def G9 : FuncId → FunA := fun g => bif Nat.beq g 15 then overdubkeep_Samples else bif Nat.beq g 10 then overdubkeep_Within else bif Nat.beq g 23 then fixed_Coefficients else bif Nat.beq g 18 then lpc_Residual else bif Nat.beq g 24 then fixed_Residual else bif Nat.beq g 19 then overdubkeep_Same_int else bif Nat.beq g 12 then overdublaw06_wakes else fun _ _ => none
theorem G9_15 : G9 15 = overdubkeep_Samples := by kernel_rfl
theorem G9_10 : G9 10 = overdubkeep_Within := by kernel_rfl
theorem G9_23 : G9 23 = fixed_Coefficients := by kernel_rfl
theorem G9_18 : G9 18 = lpc_Residual := by kernel_rfl
theorem G9_24 : G9 24 = fixed_Residual := by kernel_rfl
theorem G9_19 : G9 19 = overdubkeep_Same_int := by kernel_rfl
theorem G9_12 : G9 12 = overdublaw06_wakes := by kernel_rfl
def A9 : Ann := .two (.leaf) (.two (.leaf) (.two (.leaf) (.two (.leaf) (.two (.leaf) (.two (.two (.leaf) (.join [(0, .s), (1, .i .i64), (5, .s), (6, .s)] [] [] (.loop [(6, .s), (21, .i .i64)] [0, 1, 5, 20] [0] (.two (.leaf) (.two (.two (.leaf) (.leaf)) (.two (.join [(0, .s), (1, .i .i64), (5, .s), (6, .s), (20, .i .i64), (21, .i .i64)] [] [] (.two (.leaf) (.leaf)) .leaf) (.leaf))))) .leaf)) (.two (.leaf) (.two (.leaf) (.two (.leaf) (.leaf)))))))))
def R9 : Slots := [(4, .b)]
noncomputable def overdublaw06_LpcFixed : FunA := denF Try.prog G9 Try.f9 A9 R9
noncomputable def overdublaw06_LpcFixed_L1_B (os vs : List AV) (μ : AMem) : Option Res := joinK [(6, .s), (21, .i .i64)] vs (envO [0, 1, 5, 20] os) fun e => den Try.prog G9 Try.f9.ntmps (cL (cL (cR (cL (cR (cR (cR (cR (cR (bodyOf Try.f9)))))))))) (aL (aL (aR (aL (aR (aR (aR (aR (aR A9))))))))) { ret := R9, exits := [(0, [(0, .s), (1, .i .i64), (5, .s), (6, .s)])] } Res e μ fun ex e μ => some (ex, valsOf (Lv.at { ret := R9, exits := [(0, [(0, .s), (1, .i .i64), (5, .s), (6, .s)])] } [(6, .s), (21, .i .i64)] ex) e, μ)
noncomputable def overdublaw06_LpcFixed_L1 (os vs : List AV) (μ : AMem) : Option Res := loopA (overdublaw06_LpcFixed_L1_B os) vs μ
theorem overdublaw06_LpcFixed_L1_B_eq (s0 : SV) (s1 : Int) (s5 : SV) (s20 : Int) (s6 : SV) (s21 : Int) (μ : AMem) : overdublaw06_LpcFixed_L1_B [.s s0, .s (.int .i64 s1), .s s5, .s (.int .i64 s20)] [.s s6, .s (.int .i64 s21)] μ =
  bif decide (s21 < s20) then
  (indS 1 (.s s5) s21 fun p43 =>
    loadAt (μ.bump 9) p43 fun v44 =>
    asI .i64 v44 fun n45 =>
    appendA 3 1 8 (μ.next + 7) ((μ.bump 9).set (μ.next + 6) (rowObj [.int .i64 (IntKind.wrap .i64 (4096 * n45))] 1 3 (some 1))) (.s s6) (.s (.slice (μ.next + 6) 0 0 1)) fun x46 m47 =>
    asS x46 fun x48 =>
    some (.normal, [.s x48, .s (.int .i64 (IntKind.wrap .i64 (s21 + 1)))], m47))
  else
  (some (.exit 0, [.s s0, .s (.int .i64 s1), .s s5, .s s6], μ)) := by kernel_rfl
theorem overdublaw06_LpcFixed_L1_eq (os vs : List AV) (μ : AMem) : overdublaw06_LpcFixed_L1 os vs μ = (overdublaw06_LpcFixed_L1_B os vs μ).bind fun r => match r.1 with | .normal => overdublaw06_LpcFixed_L1 os r.2.1 r.2.2 | _ => some r := loopA_eq _ _ _
theorem overdublaw06_LpcFixed_eq (p0 : SV) (p1 : Int) (μ : AMem) : overdublaw06_LpcFixed [.s p0, .s (.int .i64 p1)] μ =
  (overdubkeep_Samples [.s p0, .s (.int .i64 64), .s (.bool false)] μ).bind fun r1 =>
  asS r1.1 fun x2 =>
  (overdubkeep_Within [.s (.int .i64 p1), .s (.int .i64 4)] r1.2).bind fun r3 =>
  asI .i64 r3.1 fun n4 =>
  (fixed_Coefficients [.s (.int .i64 (IntKind.wrap .i64 (1 + n4)))] r3.2).bind fun r5 =>
  asS r5.1 fun x6 =>
  (lenS (.s x6)).bind fun l7 =>
  seqJ (overdublaw06_LpcFixed_L1 [.s x2, .s (.int .i64 (IntKind.wrap .i64 (1 + n4))), .s x6, .s (.int .i64 ((l7 : Nat) : Int))] [.s .nilSlice, .s (.int .i64 0)] r5.2)
  (fun _ _ => none)
  (fun vs8 m9 =>
    headK vs8 fun a13 r14 =>
    asB a13 fun b15 =>
    some (.s (.bool b15), m9))
  (fun d12 vs10 m11 =>
    bif Nat.beq 0 d12 then (headK vs10 fun a16 r17 =>
      asS a16 fun x18 =>
      headK r17 fun a19 r20 =>
      asI .i64 a19 fun n21 =>
      headK r20 fun a22 r23 =>
      asS a22 fun x24 =>
      headK r23 fun a25 r26 =>
      asS a25 fun x27 =>
      (lpc_Residual [.s x18, .s x27] m11).bind fun r28 =>
      extrK 0 r28.1 fun t29 =>
      asS t29 fun x30 =>
      extrK 1 r28.1 fun t31 =>
      asI .i64 t31 fun n32 =>
      (fixed_Residual [.s x18, .s (.int .i64 n21)] r28.2).bind fun r33 =>
      extrK 0 r33.1 fun t34 =>
      asS t34 fun x35 =>
      extrK 1 r33.1 fun t36 =>
      asI .i64 t36 fun n37 =>
      (lenS (.s x24)).bind fun l38 =>
      bif (((l38 : Nat) : Int) == n21) then
      (bif (n32 == n37) then
        ((overdubkeep_Same_int [.s x30, .s x35] r33.2).bind fun r39 =>
          asB r39.1 fun b40 =>
          bif b40 then
          ((overdublaw06_wakes [] r39.2).bind fun r41 =>
            asB r41.1 fun b42 =>
            some (.s (.bool b42), r41.2))
          else
          (some (.s (.bool false), r39.2)))
        else
        (some (.s (.bool false), r33.2)))
      else
      (some (.s (.bool false), r33.2))) else (none)) := by rw [← G9_15, ← G9_10, ← G9_23, ← G9_18, ← G9_24, ← G9_19, ← G9_12]; kernel_rfl

end Go.Proofs.Ytbknenfbdhginaa
