/-
  The chapter's examples of the layer 'bound' have the results given there: tipstafflaw41.BoundKnown returns true. Conditions: those of the given card alone (the program's table and the handle of the type error lie as the program's text lays them). Proved by an evaluator that is itself proved sound against the model's machine; the kernel runs it.
-/
import Derived.Test.YthjinaagdfnmhaaGreatDoorKnA
import Derived.Test.YthjinaagdfnmhaaGreatDoorVzl
import Derived.Test.YthjinaagdfnmhaaGreatDoorCards
import Derived.Test.YthjinaagdfnmhaaGreatDoorTie
import Derived.LaidSub
namespace Go.Proofs.YthjinaagdfnmhaaGreatDoor
open Go Go.VE Go.ChangeShapes Go.WideShapes Go.RowKit
set_option linter.unusedVariables false
set_option maxRecDepth 100000
theorem ownT : ownKnob Tryz.prog.godebug = none := by kernel_rfl
abbrev laidL : List (String × DataW Unit) := [("tipstaff/crc.halves", Rows.laid_tipstaff_crc_halves), ("errors.errorType", Rows.laid_errors_errorType)]
theorem tabs_of_laid {W : World} (h : laidMetH Tryz.prog laidL W) : TabsIn Tab W := by
  have h' : laidMet Tryz.prog [("tipstaff/crc.halves", Rows.laid_tipstaff_crc_halves)] W := (laidMetH_iff.1 h).1
  obtain ⟨d1, d2, d3⟩ := ints_of_laid (k := .u8) (ns := halves) (t := 357) (e := 5) (n := 16) 1 (by kernel_rfl) (by kernel_rfl) (by kernel_rfl) Tryz.underlying5 (by kernel_rfl) (by kernel_rfl) rfl h'
  intro g cs hg hne
  match g, hg with
  | 0, hg => cases hg; exact absurd rfl hne
  | 1, hg => cases hg; exact ⟨_, _, d3⟩
  | n + 2, hg => exact absurd hg (by simp [Tab])
noncomputable def layAt (i : Nat) (cs : List Value) (h : Array Obj) : Array Obj := h.modify i fun
  | .cells _ t frozen => .cells cs.toArray t frozen
  | o => o
noncomputable def laidWorld (os : Os) : World :=
  { World.holding Tryz.prog os ⟨#[], #[], []⟩ with heap := layAt 1 (halves.map fun n => Value.int .u8 n) (layAt 0 [.iface 277 (.agg #[.pointer (some ⟨3, 125, none⟩)])] (World.holding Tryz.prog os ⟨#[], #[], []⟩).heap) }
theorem laidWorld_met (os : Os) (args : Array Value) : laidMetH Tryz.prog laidL ((laidWorld os).forCall (fun _ _ => 0) ⟨#[], args, []⟩).memory :=
  laidMetH_of_parts (show laidMet Tryz.prog [("tipstaff/crc.halves", Rows.laid_tipstaff_crc_halves)] _ from laidMet_of_run' 8 (by kernel_rfl) (by kernel_rfl)) (by kernel_rfl)

theorem known_lifted (os : Os) (started : os.Started) (H : Type) (enc : TypeId × Value → H) :
    ReturnsInHanded {} Tryz.checked os 3 .any (fun w args => (Rows.boundKnownSpec.pre enc Tryz.prog Tryz.f3 [] false w args ∧ laidMetH Tryz.prog laidL w) ∧ sizedMet enc Tryz.prog Tryz.f3 (OpenSpec.ofChange Rows.boundKnownSpec) false w args)
      (Rows.boundKnownSpec.post enc Tryz.prog Tryz.f3 false true false false) := by
  refine returnsInHanded_of_change_and (C := Tryz.checked) (X := fun w _ => laidMetH Tryz.prog laidL w) (fun _ _ _ hh h => h.of_heap hh) ownT started (by kernel_rfl) Tryz.func3
    (ChangeSpec.witness_at (enc := enc) (C := Tryz.checked) (os := os) (X := fun w _ => laidMetH Tryz.prog laidL w) false (laidWorld os) #[] 8 rfl (by kernel_rfl) (by kernel_rfl) (by kernel_rfl) (by kernel_rfl) (by kernel_rfl) (laidWorld_met os _)) ?_
  intro W base args ds gs before hval0 hW _ _ hL _
  have hW' := hW
  obtain ⟨p, q, hA0, hV, rfl, hfz, hnd⟩ := hW
  have hA : DataW.TrodAll enc Tryz.prog W 0 (fun _ => true) true Tryz.f3.params.toList args.toList ds p := hA0
  rw [Tryz.params3] at hA
  obtain ⟨ha, rfl, rfl⟩ := trodAll_none hA
  obtain ⟨rfl, rfl⟩ := trodVars_none hV
  simp only [List.append_nil] at hW'
  subst ha
  obtain ⟨H', S⟩ := known_sound
  refine (FSound.closed S .nil (tab_holds Tab_flat (tabs_of_laid hL)) tabRo rfl).mono fun e W' ⟨he, hb⟩ => ?_
  subst he
  refine ⟨_, rfl, [], [], [], [], [], [], hW', ?_, ?_, ?_, hb.frame _, fun h => by cases h⟩
  · exact trodAll_mk1 (shut_bool Tryz.underlying4 true)
  · exact trodAll_mk0
  · rfl

theorem known_holds : Rows.BoundKnownSaid :=
  OpenClaim.holds_of_wide_leaving 3 Tryz.f3 rfl rfl rfl rfl rfl rfl rfl ⟨rfl, rfl, rfl, rfl, rfl⟩ rfl rfl rfl rfl rfl (by kernel_rfl) Tryz.func3 (by kernel_rfl)
    (of_decide_eq_true (by kernel_rfl)) (by unfold Func.isWrapper; first | (rw [if_pos (by decide +kernel)]; kernel_rfl) | (rw [if_neg (by decide +kernel)]; exact ⟨rfl, rfl⟩))
    (fun os started H enc _ => leaving_of_handed (known_lifted os started H enc))

theorem known_card : Rows.BoundKnownCardSaid := by
  have h6 : ∀ r : OpenClaim, Claim7.isSixth { stood := { row := r, standIns := [], harness := (true, "c927c55d65c6ac54c9e42d7bb5e2626ab6d48c9a7ab426f1a2d40c02daada714"), looks := true }, kinds := [] } = false := fun r => by simp [Claim7.isSixth]
  refine ⟨Claim7.tied_new_at .later [.data, .handle] true (Claim7.new_of_sixth known_holds (true, "c927c55d65c6ac54c9e42d7bb5e2626ab6d48c9a7ab426f1a2d40c02daada714") true rfl ⟨rfl, rfl⟩ (by kernel_rfl) (h6 _) ?_) (by kernel_rfl), fun D hD => (by cases hD), boundKnown_row_tie, (fun h => by cases h), by kernel_rfl⟩
  intro f fn hf hfn
  obtain rfl : f = 3 := Option.some.inj ((show Tryz.prog.funcNamed "tipstaff/tipstafflaw41.BoundKnown" = some 3 by kernel_rfl).symm.trans hf) |>.symm
  obtain rfl : fn = Tryz.f3 := (Option.some.inj (Tryz.func3.symm.trans hfn)).symm
  exact ⟨by kernel_rfl, fun j t ht => by
    rw [Tryz.params3] at ht
    simp at ht⟩
#print axioms known_card
end Go.Proofs.YthjinaagdfnmhaaGreatDoor
