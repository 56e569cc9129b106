import Derived.Test.YtnlabiojmdhmiaaGreatDoorStA0
namespace Go.Proofs.YtnlabiojmdhmiaaGreatDoor
open Go Go.VE
set_option linter.unusedVariables false
set_option maxRecDepth 100000
noncomputable section
def okB : Option (Value × AHeap) → Bool | some (.bool b, _) => b | _ => false
theorem okB_ok {r : Option (Value × AHeap)} (h : okB r = true) : ∃ h', r = some (.bool true, h') := by
  unfold okB at h
  split at h
  · subst h; exact ⟨_, rfl⟩
  · cases h
def RA : Rec := runM Tryz.prog Fuel (memoK 14 NG [entA0]) 60
theorem RA_sound : RSound Tryz.prog RA := runM_sound fine follows Fuel (fun R h => memoK_fr h) (fun R h => memoK_sound h (by
  intro e he
  simp only [List.mem_cons, List.not_mem_nil, or_false] at he
  subst he
  exact sndA0)) 60
theorem awake_run : okB (RA.call 16 #[] (tabHeap Tab)) = true := by kernel_rfl
theorem awake_sound : ∃ H', FSound Tryz.prog 16 #[] (tabHeap Tab) (.bool true) H' := by
  obtain ⟨h', hr⟩ := okB_ok awake_run
  exact ⟨h', RA_sound.call _ _ _ _ _ hr⟩
theorem Tab_flat : flatT Tab = true := by kernel_rfl
end
end Go.Proofs.YtnlabiojmdhmiaaGreatDoor
