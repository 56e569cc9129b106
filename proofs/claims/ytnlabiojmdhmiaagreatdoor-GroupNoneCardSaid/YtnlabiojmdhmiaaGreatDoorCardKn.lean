/-
  The chapter's examples of the layer 'group' have the results given there: tipstafflaw37.GroupKnown returns true. Conditions: those of the given card alone (the program's table lies as the program's text lays it). Proved by an evaluator that is itself proved sound against the model's machine; the kernel runs it, stage by stage.
-/
import Derived.Test.YtnlabiojmdhmiaaGreatDoorKnA
import Derived.Test.YtnlabiojmdhmiaaGreatDoorTab
import Derived.Test.YtnlabiojmdhmiaaGreatDoorCards
import Derived.Test.YtnlabiojmdhmiaaGreatDoorTie
namespace Go.Proofs.YtnlabiojmdhmiaaGreatDoor
open Go Go.VE Go.ChangeShapes Go.WideShapes Go.RowKit
set_option linter.unusedVariables false
set_option maxRecDepth 100000
theorem laidWorld_row (os : Os) (args : Array Value) : ((laidWorld os).forCall (fun _ _ => 0) ⟨#[], args, []⟩).memory.heap[0]? = some (.cells cells16 340 (0, 0)) := by kernel_rfl
theorem reads_table {H : Type} (enc : TypeId × Value → H) (W : World) (sp : Nat → Bool) : DataW.trod enc Tryz.prog W 0 sp true 3 340 cells16.toList = some ((Rows.laid_tipstaff_crc_halves : DataW H), []) := by kernel_rfl
theorem laidWorld_met (os : Os) (args : Array Value) : laidMet Tryz.prog [("tipstaff/crc.halves", Rows.laid_tipstaff_crc_halves)] ((laidWorld os).forCall (fun _ _ => 0) ⟨#[], args, []⟩).memory :=
  ⟨_, ⟨0, 340, cells16, 3, [], [], tabG, tabT, by kernel_rfl, by kernel_rfl, rfl, rfl⟩, by decide, fun b off h => by
    have hb : b = 0 := by
      have h' : MemPlace.cell b off ∈ MemPlace.row ⟨0, 0, none⟩ cells16.size ++ [] ++ [] := h
      simp [MemPlace.row] at h'
      omega
    subst hb
    have h' : MemPlace.cell 0 off ∈ MemPlace.row ⟨0, 0, none⟩ cells16.size ++ [] ++ [] := h
    refine ⟨⟨_, _, laidWorld_row os args⟩, fun u v hc => ?_⟩
    simp only [World.cell?, laidWorld_row os] at hc
    rw [cells16, List.getElem?_toArray, List.getElem?_map] at hc
    obtain ⟨n, _, e⟩ := Option.map_eq_some_iff.1 hc
    cases e⟩

theorem known_lifted (os : Os) (started : os.Started) (H : Type) (enc : TypeId × Value → H) :
    ReturnsInHanded {} Tryz.checked os 3 .any (fun w args => (Rows.groupKnownSpec.pre enc Tryz.prog Tryz.f3 [] false w args ∧ laidMet Tryz.prog [("tipstaff/crc.halves", Rows.laid_tipstaff_crc_halves)] w) ∧ sizedMet enc Tryz.prog Tryz.f3 (OpenSpec.ofChange Rows.groupKnownSpec) false w args)
      (Rows.groupKnownSpec.post enc Tryz.prog Tryz.f3 false true false false) := by
  refine returnsInHanded_of_change_and (C := Tryz.checked) (X := fun w _ => laidMet Tryz.prog [("tipstaff/crc.halves", Rows.laid_tipstaff_crc_halves)] w) (fun _ _ _ hh h => h.of_heap hh) ownT started (by kernel_rfl) Tryz.func3
    (ChangeSpec.witness_at (enc := enc) (C := Tryz.checked) (os := os) (X := fun w _ => laidMet Tryz.prog [("tipstaff/crc.halves", Rows.laid_tipstaff_crc_halves)] w) false (laidWorld os) #[] 8 rfl (by kernel_rfl) (by kernel_rfl) (by kernel_rfl) (by kernel_rfl) (by kernel_rfl) (laidWorld_met os _)) ?_
  intro W base args ds gs before hval0 hW _ _ hL _
  have hW' := hW
  obtain ⟨p, q, hA0, hV, rfl, hfz, hnd⟩ := hW
  have hA : DataW.TrodAll enc Tryz.prog W 0 (fun _ => true) true Tryz.f3.params.toList args.toList ds p := hA0
  rw [Tryz.params3] at hA
  obtain ⟨ha, rfl, rfl⟩ := trodAll_none hA
  obtain ⟨rfl, rfl⟩ := trodVars_none hV
  simp only [List.append_nil] at hW'
  subst ha
  obtain ⟨H', S⟩ := known_sound
  refine (FSound.closed S .nil (tab_holds hL) ?_ rfl).mono fun e W' ⟨he, hb⟩ => ?_
  · intro u B hu
    obtain ⟨_, cs, _, rfl⟩ := tabs_mem _ _ _ _ (mkHeap_blk hu)
    rfl
  subst he
  refine ⟨_, rfl, [], [], [], [], [], [], hW', ?_, ?_, ?_, hb.frame _, fun h => by cases h⟩
  · exact trodAll_mk1 (shut_bool Tryz.underlying4 true)
  · exact trodAll_mk0
  · rfl

theorem known_holds : Rows.GroupKnownSaid :=
  OpenClaim.holds_of_wide 3 Tryz.f3 rfl rfl rfl rfl rfl rfl rfl ⟨rfl, rfl, rfl, rfl, rfl⟩ rfl rfl rfl rfl rfl (by kernel_rfl) Tryz.func3 (by kernel_rfl)
    (of_decide_eq_true (by kernel_rfl)) (by unfold Func.isWrapper; first | (rw [if_pos (by decide +kernel)]; kernel_rfl) | (rw [if_neg (by decide +kernel)]; exact ⟨rfl, rfl⟩))
    (fun os started H enc _ => known_lifted os started H enc)

theorem known_card : Rows.GroupKnownCardSaid :=
  Claim7.holds_tied_plain_at .later [] [.data] true (true, "81232fd8d4a99bef03eb04d634dc8966f01263107eef724e2e18ebeefb6eec45") true
    known_holds (fun _ h => by cases h) (by kernel_rfl) (fun _ h => by cases h) groupKnown_row_tie rfl ⟨rfl, rfl⟩ (by kernel_rfl) rfl
    (fun f fn hf hfn => by
      obtain rfl : f = 3 := Option.some.inj ((show Tryz.prog.funcNamed "tipstaff/tipstafflaw37.GroupKnown" = some 3 by kernel_rfl).symm.trans hf) |>.symm
      obtain rfl : fn = Tryz.f3 := (Option.some.inj (Tryz.func3.symm.trans hfn)).symm
      exact ⟨by kernel_rfl, fun j t ht => by
        rw [Tryz.params3] at ht
        simp at ht⟩)
    (by kernel_rfl)
#print axioms known_card
end Go.Proofs.YtnlabiojmdhmiaaGreatDoor
