import Derived.Test.YtjknbdfegoiicaaGreatDoorAwA
import Derived.Test.YtjknbdfegoiicaaGreatDoorStK
namespace Go.Proofs.YtjknbdfegoiicaaGreatDoor
open Go Go.VE
set_option linter.unusedVariables false
set_option maxRecDepth 100000
noncomputable section
def RK : Rec := runM Tryz.prog Fuel (fun R => memoF 16 Tab (.bool true) (memoQ 25 NG entsK R)) 60
theorem RK_sound : RSound Tryz.prog RK := by
  obtain ⟨H', hA⟩ := awake_sound
  exact runM_sound fine Fuel (fun R h => memoF_fr (memoQ_fr h)) (fun R h => memoF_sound (memoQ_sound h sndsK) hA rfl Tab_flat) 60
theorem known_run : okB (RK.call 3 #[] (tabHeap Tab)) = true := by kernel_rfl
theorem known_sound : ∃ H', FSound Tryz.prog 3 #[] (tabHeap Tab) (.bool true) H' := by
  obtain ⟨h', hr⟩ := okB_ok known_run
  exact ⟨h', RK_sound.call _ _ _ _ _ hr⟩
end
end Go.Proofs.YtjknbdfegoiicaaGreatDoor
