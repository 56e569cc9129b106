import Derived.Test.YthjinaagdfnmhaaGreatDoorStG
import Derived.Test.YthjinaagdfnmhaaGreatDoorStC
import Derived.Test.YthjinaagdfnmhaaGreatDoorVzk
namespace Go.Proofs.YthjinaagdfnmhaaGreatDoor
open Go Go.VE
set_option linter.unusedVariables false
set_option maxRecDepth 100000
noncomputable section
theorem Tab_flat : flatT Tab = true := by kernel_rfl
theorem awake_run : okB ((runC Tryz.prog Fuel 60).call 11 #[] (tabHeap Tab)) = true := by kernel_rfl
theorem awake_sound : ∃ H', FSound Tryz.prog 11 #[] (tabHeap Tab) (.bool true) H' := by
  obtain ⟨h', hr⟩ := okB_ok awake_run
  exact ⟨h', (runC_sound fine Fuel 60).call _ _ _ _ _ hr⟩
def RK : Rec := runM Tryz.prog Fuel (fun R => memoF 11 Tab (.bool true) (memoQ 14 NG entsG (memoQ 7 NG entsC R))) 60
theorem RK_sound : RSound Tryz.prog RK := by
  obtain ⟨H', hA⟩ := awake_sound
  exact runM_sound fine Fuel (fun R h => memoF_fr (memoQ_fr (memoQ_fr h))) (fun R h => memoF_sound (memoQ_sound (memoQ_sound h sndsC) sndsG) hA rfl Tab_flat) 60
theorem known_run : okB (RK.call 3 #[] (tabHeap Tab)) = true := by kernel_rfl
theorem known_sound : ∃ H', FSound Tryz.prog 3 #[] (tabHeap Tab) (.bool true) H' := by
  obtain ⟨h', hr⟩ := okB_ok known_run
  exact ⟨h', RK_sound.call _ _ _ _ _ hr⟩
end
end Go.Proofs.YthjinaagdfnmhaaGreatDoor
