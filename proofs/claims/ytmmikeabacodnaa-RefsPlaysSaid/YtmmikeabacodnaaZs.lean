/- The plain functions are sound. -/
import Derived.Test.YtmmikeabacodnaaZfa
/- The plain functions are sound: what they tell the calls come to. -/
namespace Go.Proofs.Ytmmikeabacodnaa
open Go Go.Proofs.Ytmmikeabacodnaa.E
set_option maxRecDepth 100000
set_option linter.unusedVariables false
theorem mixed : Try.prog.follows .mixedOrders = true := by kernel_rfl
theorem G7_sound : ∀ f, Sound Try.prog f (G7 f) := fun f => (Sound.none f)
theorem overdubkeep_Within_sound : Sound Try.prog 7 overdubkeep_Within := denF_sound G7_sound (drawsSound mixed G7_sound) Try.func7 (by kernel_rfl)
theorem G8_sound : ∀ f, Sound Try.prog f (G8 f) := fun f => (Sound.none f)
theorem refs_New_sound : Sound Try.prog 8 refs_New := denF_sound G8_sound (drawsSound mixed G8_sound) Try.func8 (by kernel_rfl)
theorem G19_sound : ∀ f, Sound Try.prog f (G19 f) := fun f => (Sound.none f)
theorem refs_Table_may_sound : Sound Try.prog 19 refs_Table_may := denF_sound G19_sound (drawsSound mixed G19_sound) Try.func19 (by kernel_rfl)
theorem G9_sound : ∀ f, Sound Try.prog f (G9 f) := fun f => (Sound.cond refs_Table_may_sound (Sound.none f))
theorem refs_Table_Add_sound : Sound Try.prog 9 refs_Table_Add := denF_sound G9_sound (drawsSound mixed G9_sound) Try.func9 (by kernel_rfl)
theorem G11_sound : ∀ f, Sound Try.prog f (G11 f) := fun f => (Sound.cond refs_Table_may_sound (Sound.none f))
theorem refs_Table_Of_sound : Sound Try.prog 11 refs_Table_Of := denF_sound G11_sound (drawsSound mixed G11_sound) Try.func11 (by kernel_rfl)
theorem G10_sound : ∀ f, Sound Try.prog f (G10 f) := fun f => (Sound.cond refs_Table_Of_sound (Sound.none f))
theorem refs_Table_Drop_sound : Sound Try.prog 10 refs_Table_Drop := denF_sound G10_sound (drawsSound mixed G10_sound) Try.func10 (by kernel_rfl)
theorem G12_sound : ∀ f, Sound Try.prog f (G12 f) := fun f => (Sound.cond refs_New_sound (Sound.cond refs_Table_Add_sound (Sound.cond refs_Table_Drop_sound (Sound.none f))))
theorem overdublaw12_wakes_sound : Sound Try.prog 12 overdublaw12_wakes := denF_sound G12_sound (drawsSound mixed G12_sound) Try.func12 (by kernel_rfl)
theorem G3_sound : ∀ f, Sound Try.prog f (G3 f) := fun f => (Sound.cond overdubkeep_Within_sound (Sound.cond refs_New_sound (Sound.cond refs_Table_Add_sound (Sound.cond refs_Table_Drop_sound (Sound.cond refs_Table_Of_sound (Sound.cond overdublaw12_wakes_sound (Sound.none f)))))))
theorem overdublaw12_RefsLimits_sound : Sound Try.prog 3 overdublaw12_RefsLimits := denF_sound G3_sound (drawsSound mixed G3_sound) Try.func3 (by kernel_rfl)
theorem G13_sound : ∀ f, Sound Try.prog f (G13 f) := fun f => (Sound.none f)
theorem refs_Table_Sum_sound : Sound Try.prog 13 refs_Table_Sum := denF_sound G13_sound (drawsSound mixed G13_sound) Try.func13 (by kernel_rfl)
theorem G14_sound : ∀ f, Sound Try.prog f (G14 f) := fun f => (Sound.none f)
theorem overdubkeep_Copy_int_sound : Sound Try.prog 14 overdubkeep_Copy_int := denF_sound G14_sound (drawsSound mixed G14_sound) Try.func14 (by kernel_rfl)
theorem G15_sound : ∀ f, Sound Try.prog f (G15 f) := fun f => (Sound.none f)
theorem refs_Table_Owned_sound : Sound Try.prog 15 refs_Table_Owned := denF_sound G15_sound (drawsSound mixed G15_sound) Try.func15 (by kernel_rfl)
theorem G4_sound : ∀ f, Sound Try.prog f (G4 f) := fun f => (Sound.cond refs_New_sound (Sound.cond overdubkeep_Within_sound (Sound.cond refs_Table_Add_sound (Sound.cond refs_Table_Sum_sound (Sound.cond overdublaw12_wakes_sound (Sound.cond overdubkeep_Copy_int_sound (Sound.cond refs_Table_Drop_sound (Sound.cond refs_Table_Owned_sound (Sound.none f)))))))))
theorem overdublaw12_RefsBack_sound : Sound Try.prog 4 overdublaw12_RefsBack := denF_sound G4_sound (drawsSound mixed G4_sound) Try.func4 (by kernel_rfl)
theorem G16_sound : ∀ f, Sound Try.prog f (G16 f) := fun f => (Sound.none f)
theorem overdubkeep_Same_int_sound : Sound Try.prog 16 overdubkeep_Same_int := denF_sound G16_sound (drawsSound mixed G16_sound) Try.func16 (by kernel_rfl)
theorem G5_sound : ∀ f, Sound Try.prog f (G5 f) := fun f => (Sound.cond refs_New_sound (Sound.cond overdubkeep_Within_sound (Sound.cond refs_Table_Add_sound (Sound.cond refs_Table_Of_sound (Sound.cond refs_Table_Owned_sound (Sound.cond overdubkeep_Same_int_sound (Sound.cond refs_Table_Sum_sound (Sound.cond overdublaw12_wakes_sound (Sound.none f)))))))))
theorem overdublaw12_RefsOrder_sound : Sound Try.prog 5 overdublaw12_RefsOrder := denF_sound G5_sound (drawsSound mixed G5_sound) Try.func5 (by kernel_rfl)
theorem G20_sound : ∀ f, Sound Try.prog f (G20 f) := fun f => (Sound.none f)
theorem overdubkeep_Cut_int_sound : Sound Try.prog 20 overdubkeep_Cut_int := denF_sound G20_sound (drawsSound mixed G20_sound) Try.func20 (by kernel_rfl)
theorem G17_sound : ∀ f, Sound Try.prog f (G17 f) := fun f => (Sound.cond overdubkeep_Within_sound (Sound.cond refs_Table_Drop_sound (Sound.cond overdubkeep_Cut_int_sound (Sound.cond refs_Table_Add_sound (Sound.cond refs_Table_Of_sound (Sound.cond refs_Table_Owned_sound (Sound.cond overdubkeep_Same_int_sound (Sound.cond refs_Table_Sum_sound (Sound.none f)))))))))
theorem overdublaw12_play_sound : Sound Try.prog 17 overdublaw12_play := denF_sound G17_sound (drawsSound mixed G17_sound) Try.func17 (by kernel_rfl)
theorem G18_sound : ∀ f, Sound Try.prog f (G18 f) := fun f => (Sound.none f)
theorem refs_Table_Clone_sound : Sound Try.prog 18 refs_Table_Clone := denF_sound G18_sound (drawsSound mixed G18_sound) Try.func18 (by kernel_rfl)
theorem G6_sound : ∀ f, Sound Try.prog f (G6 f) := fun f => (Sound.cond overdubkeep_Within_sound (Sound.cond refs_New_sound (Sound.cond overdublaw12_wakes_sound (Sound.cond overdublaw12_play_sound (Sound.cond refs_Table_Clone_sound (Sound.cond overdubkeep_Copy_int_sound (Sound.none f)))))))
theorem overdublaw12_RefsPlays_sound : Sound Try.prog 6 overdublaw12_RefsPlays := denF_sound G6_sound (drawsSound mixed G6_sound) Try.func6 (by kernel_rfl)
end Go.Proofs.Ytmmikeabacodnaa
