import Derived.Test.YtjknbdfegoiicaaGreatDoorStA
import Derived.Test.YtjknbdfegoiicaaGreatDoorVzk
namespace Go.Proofs.YtjknbdfegoiicaaGreatDoor
open Go Go.VE
set_option linter.unusedVariables false
set_option maxRecDepth 100000
noncomputable section
def RA : Rec := runM Tryz.prog Fuel (fun R => memoQ 25 NG entsA R) 60
theorem RA_sound : RSound Tryz.prog RA := runM_sound fine Fuel (fun R h => memoQ_fr h) (fun R h => memoQ_sound h sndsA) 60
theorem awake_run : okB (RA.call 16 #[] (tabHeap Tab)) = true := by kernel_rfl
theorem awake_sound : ∃ H', FSound Tryz.prog 16 #[] (tabHeap Tab) (.bool true) H' := by
  obtain ⟨h', hr⟩ := okB_ok awake_run
  exact ⟨h', RA_sound.call _ _ _ _ _ hr⟩
theorem Tab_flat : flatT Tab = true := by kernel_rfl
end
end Go.Proofs.YtjknbdfegoiicaaGreatDoor
