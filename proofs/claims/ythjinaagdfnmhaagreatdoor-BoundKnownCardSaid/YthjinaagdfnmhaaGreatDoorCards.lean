/-
  DERIVED. GIVEN WITH THE SEED: THE CARDS: each row of YthjinaagdfnmhaaGreatDoorRows.lean that lists a variable, with what it lists TIED to the program's text (the seventh form; the later family's looks); each row that meets fmt, with fmt's text TOLD by the authors' own Lean function (tested against real Go, not proved from fmt's source: count such statements apart). THE CARD IS WHAT COUNTS. Prove the row's statement (the work); the ties are given (YthjinaagdfnmhaaGreatDoorTie.lean); close each card by the builder's one call (the guide's Derived/Test/ToyasCard.lean, 'card_holds'). Laid BY PROGRAM, IN A SANDBOX (cutbox-door.mjs). By AI agents, Wed Nov 11 2026. No macro, syntax, notation, axiom, sorry.
-/
import Derived.Test.YthjinaagdfnmhaaGreatDoorRows
import GoSem.ClaimSeven
namespace Go.Proofs.YthjinaagdfnmhaaGreatDoor
namespace Rows

/-- THE TIED CARD OF 'tipstafflaw41.BoundKnown'. -/
def boundKnownCard : Claim7 := { stood := { row := boundKnownRow, standIns := [], harness := (true, "c927c55d65c6ac54c9e42d7bb5e2626ab6d48c9a7ab426f1a2d40c02daada714"), looks := true }, kinds := [], alts := [], goes := true, laidByText := true, laidKinds := [.data, .handle], laidTests := true, laidLooks := .later }
def BoundKnownCardSaid : Prop := Claim7.holds Tryz.pinned (.plain (OpenSpec.ofChange boundKnownSpec)) boundKnownCard

/-- THE TIED CARD OF 'tipstafflaw41.BoundGoods'. -/
def boundGoodsCard : Claim7 := { stood := { row := boundGoodsRow, standIns := [], harness := (true, "c927c55d65c6ac54c9e42d7bb5e2626ab6d48c9a7ab426f1a2d40c02daada714"), looks := true }, kinds := [], alts := [], goes := true, laidByText := true, laidKinds := [.data, .handle], laidTests := true, laidLooks := .later }
def BoundGoodsCardSaid : Prop := Claim7.holds Tryz.pinned (.plain (OpenSpec.ofChange boundGoodsSpec)) boundGoodsCard

/-- THE SECOND FORM's CARD OF 'tipstafflaw41.BoundKnown'. -/
def boundKnownUptoCard : Claim7 := { stood := { row := boundKnownUptoRow, standIns := [], harness := (true, "c927c55d65c6ac54c9e42d7bb5e2626ab6d48c9a7ab426f1a2d40c02daada714"), looks := true }, kinds := [], alts := [], goes := true, laidByText := true, laidKinds := [.data, .handle], laidTests := true, laidLooks := .later }
def BoundKnownUptoCardSaid : Prop := Claim7.holds Tryz.pinned (.plain (OpenSpec.upto boundKnownSpec)) boundKnownUptoCard

/-- THE SECOND FORM's CARD OF 'tipstafflaw41.BoundGoods'. -/
def boundGoodsUptoCard : Claim7 := { stood := { row := boundGoodsUptoRow, standIns := [], harness := (true, "c927c55d65c6ac54c9e42d7bb5e2626ab6d48c9a7ab426f1a2d40c02daada714"), looks := true }, kinds := [], alts := [], goes := true, laidByText := true, laidKinds := [.data, .handle], laidTests := true, laidLooks := .later }
def BoundGoodsUptoCardSaid : Prop := Claim7.holds Tryz.pinned (.plain (OpenSpec.upto boundGoodsSpec)) boundGoodsUptoCard
end Rows
end Go.Proofs.YthjinaagdfnmhaaGreatDoor
