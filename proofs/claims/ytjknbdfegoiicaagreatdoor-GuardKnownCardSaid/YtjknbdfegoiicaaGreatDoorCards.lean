/-
  DERIVED. GIVEN WITH THE SEED: THE CARDS: each row of YtjknbdfegoiicaaGreatDoorRows.lean that lists a variable, with what it lists TIED to the program's text (the seventh form; the later family's looks); each row that meets fmt, with fmt's text TOLD by the authors' own Lean function (tested against real Go, not proved from fmt's source: count such statements apart). THE CARD IS WHAT COUNTS. Prove the row's statement (the work); the ties are given (YtjknbdfegoiicaaGreatDoorTie.lean); close each card by the builder's one call (the guide's Derived/Test/ToyasCard.lean, 'card_holds'). Laid BY PROGRAM, IN A SANDBOX (cutbox-door.mjs). By AI agents, Wed Nov 11 2026. No macro, syntax, notation, axiom, sorry.
-/
import Derived.Test.YtjknbdfegoiicaaGreatDoorRows
import GoSem.ClaimSeven
namespace Go.Proofs.YtjknbdfegoiicaaGreatDoor
namespace Rows

/-- THE TIED CARD OF 'tipstafflaw40.GuardKnown'. -/
def guardKnownCard : Claim7 := { stood := { row := guardKnownRow, standIns := [], harness := (true, "473eb6824d82f57739220fa1262ed402e1c5c2730fb65d66ff133a966f9ceb26"), looks := true }, kinds := [], alts := [], laidByText := true, laidKinds := [.data, .data, .data, .data], laidTests := true, laidLooks := .later }
def GuardKnownCardSaid : Prop := Claim7.holds Tryz.pinned (.plain (OpenSpec.ofChange guardKnownSpec)) guardKnownCard

/-- THE TIED CARD OF 'tipstafflaw40.GuardHands'. -/
def guardHandsCard : Claim7 := { stood := { row := guardHandsRow, standIns := [], harness := (true, "473eb6824d82f57739220fa1262ed402e1c5c2730fb65d66ff133a966f9ceb26"), looks := true }, kinds := [], alts := [], laidByText := true, laidKinds := [.data], laidTests := true, laidLooks := .later }
def GuardHandsCardSaid : Prop := Claim7.holds Tryz.pinned (.plain (OpenSpec.ofChange guardHandsSpec)) guardHandsCard

/-- THE TIED CARD OF 'tipstafflaw40.GuardNone'. -/
def guardNoneCard : Claim7 := { stood := { row := guardNoneRow, standIns := [], harness := (true, "473eb6824d82f57739220fa1262ed402e1c5c2730fb65d66ff133a966f9ceb26"), looks := true }, kinds := [], alts := [], laidByText := true, laidKinds := [.data], laidTests := true, laidLooks := .later }
def GuardNoneCardSaid : Prop := Claim7.holds Tryz.pinned (.plain (OpenSpec.ofChange guardNoneSpec)) guardNoneCard

/-- THE TIED CARD OF 'tipstafflaw40.GuardSees'. -/
def guardSeesCard : Claim7 := { stood := { row := guardSeesRow, standIns := [], harness := (true, "473eb6824d82f57739220fa1262ed402e1c5c2730fb65d66ff133a966f9ceb26"), looks := true }, kinds := [], alts := [], laidByText := true, laidKinds := [.data], laidTests := true, laidLooks := .later }
def GuardSeesCardSaid : Prop := Claim7.holds Tryz.pinned (.plain (OpenSpec.ofChange guardSeesSpec)) guardSeesCard

/-- THE TIED CARD OF 'tipstafflaw40.GuardParts'. -/
def guardPartsCard : Claim7 := { stood := { row := guardPartsRow, standIns := [], harness := (true, "473eb6824d82f57739220fa1262ed402e1c5c2730fb65d66ff133a966f9ceb26"), looks := true }, kinds := [], alts := [], laidByText := true, laidKinds := [.data], laidTests := true, laidLooks := .later }
def GuardPartsCardSaid : Prop := Claim7.holds Tryz.pinned (.plain (OpenSpec.ofChange guardPartsSpec)) guardPartsCard

/-- THE SECOND FORM's CARD OF 'tipstafflaw40.GuardKnown'. -/
def guardKnownUptoCard : Claim7 := { stood := { row := guardKnownUptoRow, standIns := [], harness := (true, "473eb6824d82f57739220fa1262ed402e1c5c2730fb65d66ff133a966f9ceb26"), looks := true }, kinds := [], alts := [], laidByText := true, laidKinds := [.data, .data, .data, .data], laidTests := true, laidLooks := .later }
def GuardKnownUptoCardSaid : Prop := Claim7.holds Tryz.pinned (.plain (OpenSpec.upto guardKnownSpec)) guardKnownUptoCard

/-- THE SECOND FORM's CARD OF 'tipstafflaw40.GuardHands'. -/
def guardHandsUptoCard : Claim7 := { stood := { row := guardHandsUptoRow, standIns := [], harness := (true, "473eb6824d82f57739220fa1262ed402e1c5c2730fb65d66ff133a966f9ceb26"), looks := true }, kinds := [], alts := [], laidByText := true, laidKinds := [.data], laidTests := true, laidLooks := .later }
def GuardHandsUptoCardSaid : Prop := Claim7.holds Tryz.pinned (.plain (OpenSpec.upto guardHandsSpec)) guardHandsUptoCard

/-- THE SECOND FORM's CARD OF 'tipstafflaw40.GuardNone'. -/
def guardNoneUptoCard : Claim7 := { stood := { row := guardNoneUptoRow, standIns := [], harness := (true, "473eb6824d82f57739220fa1262ed402e1c5c2730fb65d66ff133a966f9ceb26"), looks := true }, kinds := [], alts := [], laidByText := true, laidKinds := [.data], laidTests := true, laidLooks := .later }
def GuardNoneUptoCardSaid : Prop := Claim7.holds Tryz.pinned (.plain (OpenSpec.upto guardNoneSpec)) guardNoneUptoCard

/-- THE SECOND FORM's CARD OF 'tipstafflaw40.GuardSees'. -/
def guardSeesUptoCard : Claim7 := { stood := { row := guardSeesUptoRow, standIns := [], harness := (true, "473eb6824d82f57739220fa1262ed402e1c5c2730fb65d66ff133a966f9ceb26"), looks := true }, kinds := [], alts := [], laidByText := true, laidKinds := [.data], laidTests := true, laidLooks := .later }
def GuardSeesUptoCardSaid : Prop := Claim7.holds Tryz.pinned (.plain (OpenSpec.upto guardSeesSpec)) guardSeesUptoCard

/-- THE SECOND FORM's CARD OF 'tipstafflaw40.GuardParts'. -/
def guardPartsUptoCard : Claim7 := { stood := { row := guardPartsUptoRow, standIns := [], harness := (true, "473eb6824d82f57739220fa1262ed402e1c5c2730fb65d66ff133a966f9ceb26"), looks := true }, kinds := [], alts := [], laidByText := true, laidKinds := [.data], laidTests := true, laidLooks := .later }
def GuardPartsUptoCardSaid : Prop := Claim7.holds Tryz.pinned (.plain (OpenSpec.upto guardPartsSpec)) guardPartsUptoCard
end Rows
end Go.Proofs.YtjknbdfegoiicaaGreatDoor
