/-
  DERIVED. GIVEN WITH THE SEED: THE CARDS: each row of YtnlabiojmdhmiaaGreatDoorRows.lean that lists a variable, with what it lists TIED to the program's text (the seventh form; the later family's looks); each row that meets fmt, with fmt's text TOLD by the authors' own Lean function (tested against real Go, not proved from fmt's source: count such statements apart). THE CARD IS WHAT COUNTS. Prove the row's statement (the work); the ties are given (YtnlabiojmdhmiaaGreatDoorTie.lean); close each card by the builder's one call (the guide's Derived/Test/ToyasCard.lean, 'card_holds'). Laid BY PROGRAM, IN A SANDBOX (cutbox-door.mjs). By AI agents, Wed Nov 11 2026. No macro, syntax, notation, axiom, sorry.
-/
import Derived.Test.YtnlabiojmdhmiaaGreatDoorRows
import GoSem.ClaimSeven
namespace Go.Proofs.YtnlabiojmdhmiaaGreatDoor
namespace Rows

/-- THE TIED CARD OF 'tipstafflaw37.GroupKnown'. -/
def groupKnownCard : Claim7 := { stood := { row := groupKnownRow, standIns := [], harness := (true, "81232fd8d4a99bef03eb04d634dc8966f01263107eef724e2e18ebeefb6eec45"), looks := true }, kinds := [], alts := [], laidByText := true, laidKinds := [.data], laidTests := true, laidLooks := .later }
def GroupKnownCardSaid : Prop := Claim7.holds Tryz.pinned (.plain (OpenSpec.ofChange groupKnownSpec)) groupKnownCard

/-- THE TIED CARD OF 'tipstafflaw37.GroupWords'. -/
def groupWordsCard : Claim7 := { stood := { row := groupWordsRow, standIns := [], harness := (true, "81232fd8d4a99bef03eb04d634dc8966f01263107eef724e2e18ebeefb6eec45"), looks := true }, kinds := [], alts := [], laidByText := true, laidKinds := [.data], laidTests := true, laidLooks := .later }
def GroupWordsCardSaid : Prop := Claim7.holds Tryz.pinned (.plain (OpenSpec.ofChange groupWordsSpec)) groupWordsCard

/-- THE TIED CARD OF 'tipstafflaw37.GroupCopies'. -/
def groupCopiesCard : Claim7 := { stood := { row := groupCopiesRow, standIns := [], harness := (true, "81232fd8d4a99bef03eb04d634dc8966f01263107eef724e2e18ebeefb6eec45"), looks := true }, kinds := [], alts := [], laidByText := true, laidKinds := [.data], laidTests := true, laidLooks := .later }
def GroupCopiesCardSaid : Prop := Claim7.holds Tryz.pinned (.plain (OpenSpec.ofChange groupCopiesSpec)) groupCopiesCard

/-- THE TIED CARD OF 'tipstafflaw37.GroupSafe'. -/
def groupSafeCard : Claim7 := { stood := { row := groupSafeRow, standIns := [], harness := (true, "81232fd8d4a99bef03eb04d634dc8966f01263107eef724e2e18ebeefb6eec45"), looks := true }, kinds := [], alts := [], laidByText := true, laidKinds := [.data], laidTests := true, laidLooks := .later }
def GroupSafeCardSaid : Prop := Claim7.holds Tryz.pinned (.plain (OpenSpec.ofChange groupSafeSpec)) groupSafeCard

/-- THE TIED CARD OF 'tipstafflaw37.GroupNone'. -/
def groupNoneCard : Claim7 := { stood := { row := groupNoneRow, standIns := [], harness := (true, "81232fd8d4a99bef03eb04d634dc8966f01263107eef724e2e18ebeefb6eec45"), looks := true }, kinds := [], alts := [], laidByText := true, laidKinds := [.data], laidTests := true, laidLooks := .later }
def GroupNoneCardSaid : Prop := Claim7.holds Tryz.pinned (.plain (OpenSpec.ofChange groupNoneSpec)) groupNoneCard

/-- THE SECOND FORM's CARD OF 'tipstafflaw37.GroupKnown'. -/
def groupKnownUptoCard : Claim7 := { stood := { row := groupKnownUptoRow, standIns := [], harness := (true, "81232fd8d4a99bef03eb04d634dc8966f01263107eef724e2e18ebeefb6eec45"), looks := true }, kinds := [], alts := [], laidByText := true, laidKinds := [.data], laidTests := true, laidLooks := .later }
def GroupKnownUptoCardSaid : Prop := Claim7.holds Tryz.pinned (.plain (OpenSpec.upto groupKnownSpec)) groupKnownUptoCard

/-- THE SECOND FORM's CARD OF 'tipstafflaw37.GroupWords'. -/
def groupWordsUptoCard : Claim7 := { stood := { row := groupWordsUptoRow, standIns := [], harness := (true, "81232fd8d4a99bef03eb04d634dc8966f01263107eef724e2e18ebeefb6eec45"), looks := true }, kinds := [], alts := [], laidByText := true, laidKinds := [.data], laidTests := true, laidLooks := .later }
def GroupWordsUptoCardSaid : Prop := Claim7.holds Tryz.pinned (.plain (OpenSpec.upto groupWordsSpec)) groupWordsUptoCard

/-- THE SECOND FORM's CARD OF 'tipstafflaw37.GroupCopies'. -/
def groupCopiesUptoCard : Claim7 := { stood := { row := groupCopiesUptoRow, standIns := [], harness := (true, "81232fd8d4a99bef03eb04d634dc8966f01263107eef724e2e18ebeefb6eec45"), looks := true }, kinds := [], alts := [], laidByText := true, laidKinds := [.data], laidTests := true, laidLooks := .later }
def GroupCopiesUptoCardSaid : Prop := Claim7.holds Tryz.pinned (.plain (OpenSpec.upto groupCopiesSpec)) groupCopiesUptoCard

/-- THE SECOND FORM's CARD OF 'tipstafflaw37.GroupSafe'. -/
def groupSafeUptoCard : Claim7 := { stood := { row := groupSafeUptoRow, standIns := [], harness := (true, "81232fd8d4a99bef03eb04d634dc8966f01263107eef724e2e18ebeefb6eec45"), looks := true }, kinds := [], alts := [], laidByText := true, laidKinds := [.data], laidTests := true, laidLooks := .later }
def GroupSafeUptoCardSaid : Prop := Claim7.holds Tryz.pinned (.plain (OpenSpec.upto groupSafeSpec)) groupSafeUptoCard

/-- THE SECOND FORM's CARD OF 'tipstafflaw37.GroupNone'. -/
def groupNoneUptoCard : Claim7 := { stood := { row := groupNoneUptoRow, standIns := [], harness := (true, "81232fd8d4a99bef03eb04d634dc8966f01263107eef724e2e18ebeefb6eec45"), looks := true }, kinds := [], alts := [], laidByText := true, laidKinds := [.data], laidTests := true, laidLooks := .later }
def GroupNoneUptoCardSaid : Prop := Claim7.holds Tryz.pinned (.plain (OpenSpec.upto groupNoneSpec)) groupNoneUptoCard
end Rows
end Go.Proofs.YtnlabiojmdhmiaaGreatDoor
