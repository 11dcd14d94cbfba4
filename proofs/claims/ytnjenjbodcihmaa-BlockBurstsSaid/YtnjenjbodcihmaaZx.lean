/- Functions of package sync, by walks. -/
import Derived.Test.YtnjenjbodcihmaaProg
import Derived.Tactics
import Derived.Tactics2
import Derived.Defers
import Derived.Laws.Pointers
import Derived.Laws.LoneSync
import Derived.RegionTactic
import Derived.RegionCalls
import Derived.ChangeAlike
import Derived.KernelRfl
import Derived.Test.YtnjenjbodcihmaaZfa
/- Functions of package sync, in one goroutine, at this program: what they do, by walks. -/
namespace Go.Proofs.Ytnjenjbodcihmaa.X
open Go
set_option linter.unusedVariables false
set_option maxRecDepth 100000
set_option maxHeartbeats 1600000
set_option linter.unusedSimpArgs false
theorem disable (w : World) : (callFunc 93 #[]).run Try.prog w = .ok (.value (.tuple #[])) w := run_call_mark0 Try.func93 (by kernel_rfl) (by kernel_rfl) (by kernel_rfl) .disable (by kernel_rfl) w
theorem enable (w : World) : (callFunc 95 #[]).run Try.prog w = .ok (.value (.tuple #[])) w := run_call_mark0 Try.func95 (by kernel_rfl) (by kernel_rfl) (by kernel_rfl) .enable (by kernel_rfl) w
theorem acquire (a : Addr) (w : World) : (callFunc 96 #[.pointer (some a)]).run Try.prog w = .ok (.value (.tuple #[])) w := run_call_marked Try.func96 (by kernel_rfl) (by kernel_rfl) (by kernel_rfl) .acquire (by kernel_rfl) a w
theorem releaseMerge (a : Addr) (w : World) : (callFunc 98 #[.pointer (some a)]).run Try.prog w = .ok (.value (.tuple #[])) w := run_call_marked Try.func98 (by kernel_rfl) (by kernel_rfl) (by kernel_rfl) .releaseMerge (by kernel_rfl) a w
/-- '(*sync/atomic.Bool).Store(true)', as a deferred call. -/
theorem store_deferred (a : Addr) (x : Value) (u : FrameMode) (w : World) (hc : w.cell? a = some x) (hz : w.frozen? a = false) :
    CallsD Try.prog 88 #[.pointer (some a), .bool true] u w fun e u' w' => u' = u ∧ (e = .returned (.tuple #[]) ∧ w' = w.drew.setCell a (.int .u32 1)) := by
  have hc' : w.drew.cell? a = some x := by go_simp
  have hz' : w.drew.frozen? a = false := by go_simp
  have hst := run_call_store (P := Try.prog) Try.func91 (by kernel_rfl) (by kernel_rfl) (by kernel_rfl) (by kernel_rfl) (k := .u32) (y := 1) hc' hz'
  go_enter_d Try.func88, Try.ntmps88
  go_wp2
  go_region_calls
  all_goals (go_end0; exact ⟨rfl, rfl⟩)
/-- '(*sync.Mutex).Unlock', as a deferred call, the lock held and nobody waiting. -/
theorem unlock_deferred (a : Addr) (u : FrameMode) (w : World) (hc : w.cell? a = some (.int .i32 1)) (hz : w.frozen? a = false) :
    CallsD Try.prog 87 #[.pointer (some a)] u w fun e u' w' => u' = u ∧ (e = .returned (.tuple #[]) ∧ w' = w.setCell a (.int .i32 0)) := by
  have hd := disable
  have he := enable
  have hr := releaseMerge
  have hadd := run_call_add (P := Try.prog) Try.func99 (by kernel_rfl) (by kernel_rfl) (by kernel_rfl) .i32 (by kernel_rfl) (y := -1) (s := 0) hc hz (by simp [go_sem]; rfl)
  have hcv := run_convert_to_unsafe (P := Try.prog) (src := 134) (dst := 138) Try.underlying134 Try.underlying138 (by kernel_rfl) hc
  go_enter_d Try.func87, Try.ntmps87
  go_wp2
  go_end0
  go_wp2
  go_end0
  exact ⟨rfl, rfl⟩
/-- '(*sync.Mutex).Lock', the lock free. -/
theorem lock_free (a : Addr) (w : World) (hc : w.cell? a = some (.int .i32 0)) (hz : w.frozen? a = false) :
    Calls Try.prog 86 #[.pointer (some a)] w fun e w' => e = .returned (.tuple #[]) ∧ w' = w.setCell a (.int .i32 1) := by
  have hd := disable
  have he := enable
  have ha := acquire
  have hcas := run_call_cas_hit (P := Try.prog) Try.func94 (by kernel_rfl) (by kernel_rfl) (by kernel_rfl) .i32 (by kernel_rfl) (y := 1) hc hz
  have hc' : (w.setCell a (.int .i32 1)).cell? a = some (.int .i32 1) := World.cell?_setCell_same w a _ hc
  have hcv := run_convert_to_unsafe (P := Try.prog) (src := 134) (dst := 138) Try.underlying134 Try.underlying138 (by kernel_rfl) hc'
  go_enter Try.func86, Try.ntmps86
  go_wp2
  first | go_end0 | (simp only [Exit.inBlock, Exit.then]; refine bodyPost_ret (results_none rfl _ _ _) rfl ?_) | refine bodyPost_ret (results_none rfl _ _ _) rfl ?_
  go_wp2
  go_end0
  exact ⟨rfl, rfl⟩
/-- '(*sync.Once).doSlow', not yet done, the lock free: the lock is taken, the function called, then the two deferred calls. -/
theorem slow (b off : Nat) (g : FuncId) (first cvs : Array Value) (w : World) (R : Ending → World → Prop)
    (h0 : w.cell? ⟨b, off, none⟩ = some (.int .u32 0)) (h1 : w.cell? ⟨b, off + 1, none⟩ = some (.int .i32 0))
    (f1 : w.frozen? ⟨b, off + 1, none⟩ = false)
    (hg : ∀ (args : Array Value) (w : World), (callFunc g args).run Try.prog w = .ok (.enter g args) w)
    (hcall : Calls Try.prog g (first ++ cvs) (w.setCell ⟨b, off + 1, none⟩ (.int .i32 1)) R)
    (hR : ∀ e w2, R e w2 → (∃ u, e = .returned u) ∧ w2.cell? ⟨b, off, none⟩ = some (.int .u32 0) ∧ w2.frozen? ⟨b, off, none⟩ = false ∧ w2.cell? ⟨b, off + 1, none⟩ = some (.int .i32 1) ∧ w2.frozen? ⟨b, off + 1, none⟩ = false) :
    Calls Try.prog 78 #[.pointer (some ⟨b, off, none⟩), .func (.func g) first cvs] w fun e w' => e = .returned (.tuple #[]) ∧
      ∃ e2 w2, R e2 w2 ∧ w' = (w2.drew.setCell ⟨b, off, none⟩ (.int .u32 1)).setCell ⟨b, off + 1, none⟩ (.int .i32 0) := by
  have hl := run_call_load (P := Try.prog) Try.func85 (by kernel_rfl) (by kernel_rfl) (by kernel_rfl) .u32 (by kernel_rfl) (w := w.setCell ⟨b, off + 1, none⟩ (.int .i32 1)) (a := ⟨b, off, none⟩) (x := 0) ((World.cell?_setCell_other _ ⟨b, off + 1, none⟩ ⟨b, off, none⟩ _ (by simp)).trans h0)
  have hnot : ∀ (x : Bool) (w : World), (Op.unary .not (.bool x)).run Try.prog w = .ok (.bool (!x)) w := fun _ _ => rfl
  go_enter_defers Try.func78, Try.ntmps78
  go_wp2_with (go_at_call 86; refine (lock_free ⟨b, off + 1, none⟩ _ (by go_simp) (by go_simp)).mono ?_; rintro e w' ⟨rfl, rfl⟩)
  go_wp2
  refine hcall.mono ?_
  intro e w2 hr
  obtain ⟨⟨u, rfl⟩, c0, z0, c1, z1⟩ := hR e w2 hr
  dsimp only
  go_wp2
  -- two deferred calls, the last laid first
  refine leaves_cons (f := 88) (args := #[.pointer (some ⟨b, off, none⟩), .bool true]) (by simp) (by simp [go_sem]) ?_
  refine (store_deferred ⟨b, off, none⟩ (.int .u32 0) .returning _ c0 z0).mono ?_
  rintro e u' w'' ⟨rfl, rfl, rfl⟩
  refine leaves_cons (f := 87) (args := #[.pointer (some ⟨b, off + 1, none⟩)]) (by simp [settle]) (by simp [go_sem]) ?_
  refine (unlock_deferred ⟨b, off + 1, none⟩ _ _ ?_ (by simp [z1])).mono ?_
  · refine (World.cell?_setCell_other _ ⟨b, off, none⟩ ⟨b, off + 1, none⟩ _ (by simp)).trans ?_
    rw [World.cell?_drew]
    exact c1
  rintro e u' w'' ⟨rfl, rfl, rfl⟩
  simp [Leaves, settle, results, Try.results78]
  exact ⟨_, w2, hr, rfl⟩
/-- '(*sync.Once).Do', done already. -/
theorem do_done (a : Addr) (d : Int) (fv : Value) (w : World) (hd : ¬ d = 0) (h0 : w.cell? a = some (.int .u32 d)) :
    Calls Try.prog 62 #[.pointer (some a), fv] w fun e w' => e = .returned (.tuple #[]) ∧ w' = w := by
  have hl := run_call_load (P := Try.prog) Try.func85 (by kernel_rfl) (by kernel_rfl) (by kernel_rfl) .u32 (by kernel_rfl) h0
  have hnot : ∀ (x : Bool) (w : World), (Op.unary .not (.bool x)).run Try.prog w = .ok (.bool (!x)) w := fun _ _ => rfl
  have hd' : (d != 0) = true := by simp [hd]
  go_enter Try.func62, Try.ntmps62
  go_wp2
  go_end0
  exact ⟨rfl, rfl⟩
/-- '(*sync.Once).Do', not yet done. -/
theorem do_first (b off : Nat) (g : FuncId) (first cvs : Array Value) (w : World) (R : Ending → World → Prop)
    (h0 : w.cell? ⟨b, off, none⟩ = some (.int .u32 0)) (h1 : w.cell? ⟨b, off + 1, none⟩ = some (.int .i32 0))
    (f1 : w.frozen? ⟨b, off + 1, none⟩ = false)
    (hg : ∀ (args : Array Value) (w : World), (callFunc g args).run Try.prog w = .ok (.enter g args) w)
    (hcall : Calls Try.prog g (first ++ cvs) (w.setCell ⟨b, off + 1, none⟩ (.int .i32 1)) R)
    (hR : ∀ e w2, R e w2 → (∃ u, e = .returned u) ∧ w2.cell? ⟨b, off, none⟩ = some (.int .u32 0) ∧ w2.frozen? ⟨b, off, none⟩ = false ∧ w2.cell? ⟨b, off + 1, none⟩ = some (.int .i32 1) ∧ w2.frozen? ⟨b, off + 1, none⟩ = false) :
    Calls Try.prog 62 #[.pointer (some ⟨b, off, none⟩), .func (.func g) first cvs] w fun e w' => e = .returned (.tuple #[]) ∧
      ∃ e2 w2, R e2 w2 ∧ w' = (w2.drew.setCell ⟨b, off, none⟩ (.int .u32 1)).setCell ⟨b, off + 1, none⟩ (.int .i32 0) := by
  have hl := run_call_load (P := Try.prog) Try.func85 (by kernel_rfl) (by kernel_rfl) (by kernel_rfl) .u32 (by kernel_rfl) h0
  have hnot : ∀ (x : Bool) (w : World), (Op.unary .not (.bool x)).run Try.prog w = .ok (.bool (!x)) w := fun _ _ => rfl
  go_enter Try.func62, Try.ntmps62
  go_wp2_with (first | (go_at_call 78; refine (slow b off g first cvs w R h0 h1 f1 hg hcall hR).mono ?_; rintro e w' ⟨rfl, hw⟩) | (go_at_call 77; go_in))
  go_end0
  exact ⟨rfl, hw⟩
open Go.Proofs.Ytnjenjbodcihmaa.E in
theorem once {Γ : FuncId → FunA} (hΓ : ∀ f, Sound Try.prog f (Γ f)) : Sound Try.prog 62 (onceF Γ) :=
  once_sound hΓ ⟨_, Try.func62, by kernel_rfl, by kernel_rfl⟩ do_done do_first
/-- '(*sync/atomic.Int64).Add'. -/
theorem add64 (a : Addr) (x y : Int) (w : World) (hc : w.cell? a = some (.int .i64 x)) (hz : w.frozen? a = false) :
    Calls Try.prog 24 #[.pointer (some a), .int .i64 y] w fun e w' => e = .returned (.int .i64 (IntKind.wrap .i64 (x + y))) ∧ w' = w.setCell a (.int .i64 (IntKind.wrap .i64 (x + y))) := by
  have hadd := run_call_add (P := Try.prog) Try.func33 (by kernel_rfl) (by kernel_rfl) (by kernel_rfl) .i64 (by kernel_rfl) (y := y) (s := IntKind.wrap .i64 (x + y)) hc hz (by simp [Op.intArith, Sem.run_pure])
  go_enter Try.func24, Try.ntmps24
  go_wp2
  go_ret
  rw [IntKind.wrap_i64]
  first | exact ⟨rfl, rfl⟩ | (constructor <;> simp [RowKit.wrap64])
open Go.Proofs.Ytnjenjbodcihmaa.E in
theorem addI64 : Sound Try.prog 24 addI64F := addI64_sound ⟨_, Try.func24, by kernel_rfl, by kernel_rfl⟩ add64
end Go.Proofs.Ytnjenjbodcihmaa.X
