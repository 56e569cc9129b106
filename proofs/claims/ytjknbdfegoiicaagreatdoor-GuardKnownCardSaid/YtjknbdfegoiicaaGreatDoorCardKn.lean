/-
  The chapter's examples of the layer 'guard' have the results given there: tipstafflaw40.GuardKnown returns true. Conditions: those of the given card alone (the program's four tables lie as the program's text lays them). Proved by an evaluator that is itself proved sound against the model's machine; the kernel runs it, stage by stage.
-/
import Derived.Test.YtjknbdfegoiicaaGreatDoorKnA
import Derived.Test.YtjknbdfegoiicaaGreatDoorCards
import Derived.Test.YtjknbdfegoiicaaGreatDoorTie
namespace Go.Proofs.YtjknbdfegoiicaaGreatDoor
open Go Go.VE Go.ChangeShapes Go.WideShapes Go.RowKit
set_option linter.unusedVariables false
set_option maxRecDepth 100000
theorem ownT : ownKnob Tryz.prog.godebug = none := by kernel_rfl
abbrev laidL : List (String × DataW Unit) := [("math/bits.deBruijn32tab", Rows.laid_math_bits_deBruijn32tab), ("math/bits.deBruijn64tab", Rows.laid_math_bits_deBruijn64tab), ("internal/strconv.uint64pow10", Rows.laid_internal_strconv_uint64pow10), ("tipstaff/crc.halves", Rows.laid_tipstaff_crc_halves)]
def tpow : List Int := [1,10,100,1000,10000,100000,1000000,10000000,100000000,1000000000,10000000000,100000000000,1000000000000,10000000000000,100000000000000,1000000000000000,10000000000000000,100000000000000000,1000000000000000000,10000000000000000000]
def t32 : List Int := [0,1,28,2,29,14,24,3,30,22,20,15,25,17,4,8,31,27,13,23,21,19,16,7,26,12,18,6,11,5,10,9]
def t64 : List Int := [0,1,56,2,57,49,28,3,61,58,42,50,38,29,17,4,62,47,59,36,45,43,51,22,53,39,33,30,24,18,12,5,63,55,48,27,60,41,37,16,46,35,44,21,52,32,23,11,54,26,40,15,34,20,31,10,25,14,19,9,13,8,7,6]
def tcrc : List Int := [0,7,14,9,28,27,18,21,56,63,54,49,36,35,42,45]
theorem tabs_of_laid {W : World} (h : laidMet Tryz.prog laidL W) : TabsIn Tab W := by
  obtain ⟨a1, a2, a3⟩ := ints_of_laid (k := .u8) (ns := t32) (t := 385) (e := 5) (n := 32) 1 (by kernel_rfl) (by kernel_rfl) (by kernel_rfl) Tryz.underlying5 (by kernel_rfl) (by kernel_rfl) rfl h
  obtain ⟨b1, b2, b3⟩ := ints_of_laid (k := .u8) (ns := t64) (t := 386) (e := 5) (n := 64) 2 (by kernel_rfl) (by kernel_rfl) (by kernel_rfl) Tryz.underlying5 (by kernel_rfl) (by kernel_rfl) rfl h.tail
  obtain ⟨c1, c2, c3⟩ := ints_of_laid (k := .u64) (ns := tpow) (t := 317) (e := 24) (n := 20) 0 (by kernel_rfl) (by kernel_rfl) (by kernel_rfl) Tryz.underlying24 (by kernel_rfl) (by kernel_rfl) rfl h.tail.tail
  obtain ⟨d1, d2, d3⟩ := ints_of_laid (k := .u8) (ns := tcrc) (t := 397) (e := 5) (n := 16) 3 (by kernel_rfl) (by kernel_rfl) (by kernel_rfl) Tryz.underlying5 (by kernel_rfl) (by kernel_rfl) rfl h.tail.tail.tail
  intro g cs hg
  match g, hg with
  | 0, hg => cases hg; exact ⟨_, _, c3⟩
  | 1, hg => cases hg; exact ⟨_, _, a3⟩
  | 2, hg => cases hg; exact ⟨_, _, b3⟩
  | 3, hg => cases hg; exact ⟨_, _, d3⟩
  | n + 4, hg => exact absurd hg (by simp [Tab])
noncomputable def layAt (i : Nat) (cs : List Value) (h : Array Obj) : Array Obj := h.modify i fun
  | .cells _ t frozen => .cells cs.toArray t frozen
  | o => o
noncomputable def laidWorld (os : Os) : World :=
  { World.holding Tryz.prog os ⟨#[], #[], []⟩ with heap := layAt 3 (tcrc.map fun n => Value.int .u8 n) (layAt 2 (t64.map fun n => Value.int .u8 n) (layAt 1 (t32.map fun n => Value.int .u8 n) (layAt 0 (tpow.map fun n => Value.int .u64 n) (World.holding Tryz.prog os ⟨#[], #[], []⟩).heap))) }
theorem laidWorld_met (os : Os) (args : Array Value) : laidMet Tryz.prog laidL ((laidWorld os).forCall (fun _ _ => 0) ⟨#[], args, []⟩).memory :=
  laidMet_of_run' 8 (by kernel_rfl) (by kernel_rfl)

theorem known_lifted (os : Os) (started : os.Started) (H : Type) (enc : TypeId × Value → H) :
    ReturnsInHanded {} Tryz.checked os 3 .any (fun w args => (Rows.guardKnownSpec.pre enc Tryz.prog Tryz.f3 [] false w args ∧ laidMet Tryz.prog laidL w) ∧ sizedMet enc Tryz.prog Tryz.f3 (OpenSpec.ofChange Rows.guardKnownSpec) false w args)
      (Rows.guardKnownSpec.post enc Tryz.prog Tryz.f3 false true false false) := by
  refine returnsInHanded_of_change_and (C := Tryz.checked) (X := fun w _ => laidMet Tryz.prog laidL w) (fun _ _ _ hh h => h.of_heap hh) ownT started (by kernel_rfl) Tryz.func3
    (ChangeSpec.witness_at (enc := enc) (C := Tryz.checked) (os := os) (X := fun w _ => laidMet Tryz.prog laidL w) false (laidWorld os) #[] 8 rfl (by kernel_rfl) (by kernel_rfl) (by kernel_rfl) (by kernel_rfl) (by kernel_rfl) (laidWorld_met os _)) ?_
  intro W base args ds gs before hval0 hW _ _ hL _
  have hW' := hW
  obtain ⟨p, q, hA0, hV, rfl, hfz, hnd⟩ := hW
  have hA : DataW.TrodAll enc Tryz.prog W 0 (fun _ => true) true Tryz.f3.params.toList args.toList ds p := hA0
  rw [Tryz.params3] at hA
  obtain ⟨ha, rfl, rfl⟩ := trodAll_none hA
  obtain ⟨rfl, rfl⟩ := trodVars_none hV
  simp only [List.append_nil] at hW'
  subst ha
  obtain ⟨H', S⟩ := known_sound
  refine (FSound.closed S .nil (tab_holds Tab_flat (tabs_of_laid hL)) tabRo rfl).mono fun e W' ⟨he, hb⟩ => ?_
  subst he
  refine ⟨_, rfl, [], [], [], [], [], [], hW', ?_, ?_, ?_, hb.frame _, fun h => by cases h⟩
  · exact trodAll_mk1 (shut_bool Tryz.underlying4 true)
  · exact trodAll_mk0
  · rfl

theorem known_holds : Rows.GuardKnownSaid :=
  OpenClaim.holds_of_wide 3 Tryz.f3 rfl rfl rfl rfl rfl rfl rfl ⟨rfl, rfl, rfl, rfl, rfl⟩ rfl rfl rfl rfl rfl (by kernel_rfl) Tryz.func3 (by kernel_rfl)
    (of_decide_eq_true (by kernel_rfl)) (by unfold Func.isWrapper; first | (rw [if_pos (by decide +kernel)]; kernel_rfl) | (rw [if_neg (by decide +kernel)]; exact ⟨rfl, rfl⟩))
    (fun os started H enc _ => known_lifted os started H enc)

theorem known_card : Rows.GuardKnownCardSaid :=
  Claim7.holds_tied_plain_at .later [] [.data, .data, .data, .data] true (true, "473eb6824d82f57739220fa1262ed402e1c5c2730fb65d66ff133a966f9ceb26") true
    known_holds (fun _ h => by cases h) (by kernel_rfl) (fun _ h => by cases h) guardKnown_row_tie rfl ⟨rfl, rfl⟩ (by kernel_rfl) rfl
    (fun f fn hf hfn => by
      obtain rfl : f = 3 := Option.some.inj ((show Tryz.prog.funcNamed "tipstaff/tipstafflaw40.GuardKnown" = some 3 by kernel_rfl).symm.trans hf) |>.symm
      obtain rfl : fn = Tryz.f3 := (Option.some.inj (Tryz.func3.symm.trans hfn)).symm
      exact ⟨by kernel_rfl, fun j t ht => by
        rw [Tryz.params3] at ht
        simp at ht⟩)
    (by kernel_rfl)
#print axioms known_card
end Go.Proofs.YtjknbdfegoiicaaGreatDoor
