import Derived.Test.YtnlabiojmdhmiaaGreatDoorAwA
import Derived.Test.YtnlabiojmdhmiaaGreatDoorStK0
import Derived.Test.YtnlabiojmdhmiaaGreatDoorStK1
import Derived.Test.YtnlabiojmdhmiaaGreatDoorStS
import Derived.Test.YtnlabiojmdhmiaaGreatDoorVzj
namespace Go.Proofs.YtnlabiojmdhmiaaGreatDoor
open Go Go.VE
set_option linter.unusedVariables false
set_option maxRecDepth 100000
noncomputable section
def RK : Rec := runM Tryz.prog Fuel (fun R => memoF 16 Tab (.bool true) (memoQ 14 NG [entK0, entK1] (memoQ 12 NG entsS R))) 60
theorem RK_sound : RSound Tryz.prog RK := by
  obtain ⟨H', hA⟩ := awake_sound
  refine runM_sound fine follows Fuel (fun R h => memoF_fr (memoQ_fr (memoQ_fr h))) (fun R h => memoF_sound (memoQ_sound (memoQ_sound h sndsS) ?_) hA rfl Tab_flat) 60
  simp only [List.forall_mem_cons, List.not_mem_nil, false_implies, implies_true, and_true]
  exact ⟨sndK0, sndK1⟩
theorem known_run : okB (RK.call 3 #[] (tabHeap Tab)) = true := by kernel_rfl
theorem known_sound : ∃ H', FSound Tryz.prog 3 #[] (tabHeap Tab) (.bool true) H' := by
  obtain ⟨h', hr⟩ := okB_ok known_run
  exact ⟨h', RK_sound.call _ _ _ _ _ hr⟩
end
end Go.Proofs.YtnlabiojmdhmiaaGreatDoor
