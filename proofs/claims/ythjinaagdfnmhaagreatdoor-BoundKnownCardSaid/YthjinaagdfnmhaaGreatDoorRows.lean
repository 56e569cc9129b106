/-
  NARROWER THAN 'FOR EVERY INPUT', by the rows' own cells (each row's printed sentence says how): BoundKnown: laid · BoundGoods: laid.
  DERIVED. THE GIVEN ROWS OF THIS SEAT. 2 by the template 'for every input the law returns true; each argument reads behind the call as it read before'; 0 by the template 'total and deterministic' (their statements: YthjinaagdfnmhaaGreatDoorTotals.lean).
  GIVEN WITH THE SEED: the statements are not yours to turn. If you find one false, say at which input.
  Laid BY PROGRAM, IN A SANDBOX (cutbox-rows.mjs): the forced cells as the released guide's own fill.sh prints them over the translation ef7b23cd39b67ca0… (all of the seat's roots in one cut). By AI agents, Wed Nov 11 2026. No macro, syntax, notation, axiom, sorry.
-/
import Derived.Test.YthjinaagdfnmhaaGreatDoorChecked
import GoSem.Claim
import GoSem.ClaimJoined
import GoSem.ClaimMapViews
import Derived.JoinedTies
import Derived.KernelRfl
namespace Go.Proofs.YthjinaagdfnmhaaGreatDoor
/- THE CELL 'sum', in the pinned program and in every row, IS THE sha256 OF THE DUMP (.gsa) THAT YthjinaagdfnmhaaGreatDoorProg.lean LOADS. Nothing in Lean hashes anything: it is a label: what it is worth is what the hold of that sum in a sandbox is worth. -/
noncomputable def Tryz.pinned : Pinned := { name := "ythjinaagdfnmhaagreatdoor", sum := "ef7b23cd39b67ca0f59acdcc2a075aee80af2003f241b97d7c3bc533d681882c", checked := Tryz.checked }
namespace Rows
def none {H : Type} : Left H := { results := [], args := [] }

/- WHAT THE LISTED PACKAGE-LEVEL VARIABLES READ AS WHEN THE CALL BEGINS. Each datum BY PROGRAM (the guide's laid-datum.mjs) off the statement by which the dump's own 'gosem.cut.vars' lays the variable. In a bare row this is a premise. The card (YthjinaagdfnmhaaGreatDoorCards.lean) ties it to the program's text. -/
def laid_tipstaff_crc_halves {H : Type} : DataW H := .agg [.lit (.int .u8 0), .lit (.int .u8 7), .lit (.int .u8 14), .lit (.int .u8 9), .lit (.int .u8 28), .lit (.int .u8 27), .lit (.int .u8 18), .lit (.int .u8 21), .lit (.int .u8 56), .lit (.int .u8 63), .lit (.int .u8 54), .lit (.int .u8 49), .lit (.int .u8 36), .lit (.int .u8 35), .lit (.int .u8 42), .lit (.int .u8 45)]
def laid_errors_errorType {H : Type} : DataW H := .iface "internal/reflectlite.rtype" (.agg [.ptr (.lit (.string [101, 114, 114, 111, 114]))])

/-- 'tipstafflaw41.BoundKnown': WHATEVER THE INPUT: true; the input reads as it did. -/
def boundKnownSpec : ChangeSpec := { name := "boundKnown", fn := fun _ => fun
  | [] => { results := [.lit (.bool true)], args := [] }
  | _ => none }
def boundKnownRow : OpenClaim := { program := "ythjinaagdfnmhaagreatdoor", sum := "ef7b23cd39b67ca0f59acdcc2a075aee80af2003f241b97d7c3bc533d681882c", func := "tipstaff/tipstafflaw41.BoundKnown", spec := "boundKnown", inPlace := ["internal/reflectlite.ValueOf", "(internal/reflectlite.Value).Type", "(internal/reflectlite.Value).IsNil", "internal/reflectlite.TypeOf", "(internal/reflectlite.Value).Elem", "(internal/reflectlite.Value).Set", "internal/bytealg.IndexByteString"], unfollowed := true, recurses := true, named := ["errors.errorType", "tipstaff/crc.halves"], plainKeys := false, leaving := true, apart := false, laid := [("tipstaff/crc.halves", laid_tipstaff_crc_halves), ("errors.errorType", laid_errors_errorType)] }
def BoundKnownSaid : Prop := boundKnownRow.holds Tryz.pinned (OpenSpec.ofChange boundKnownSpec)

/-- ITS FALSE NEIGHBOUR: 'it returns false'. Refute it at one input. -/
def boundKnownWrong : ChangeSpec := { name := "boundKnown", fn := fun _ => fun
  | [] => { results := [.lit (.bool false)], args := [] }
  | _ => none }
def BoundKnownWrongFalsely : Prop := boundKnownRow.holds Tryz.pinned (OpenSpec.ofChange boundKnownWrong)

/-- 'tipstafflaw41.BoundGoods': WHATEVER THE INPUT: true; the input reads as it did. -/
def boundGoodsSpec : ChangeSpec := { name := "boundGoods", fn := fun _ => fun
  | [d1, d2, d3] => { results := [.lit (.bool true)], args := [d1, d2, d3] }
  | _ => none }
def boundGoodsRow : OpenClaim := { program := "ythjinaagdfnmhaagreatdoor", sum := "ef7b23cd39b67ca0f59acdcc2a075aee80af2003f241b97d7c3bc533d681882c", func := "tipstaff/tipstafflaw41.BoundGoods", spec := "boundGoods", inPlace := ["internal/reflectlite.ValueOf", "(internal/reflectlite.Value).Type", "(internal/reflectlite.Value).IsNil", "internal/reflectlite.TypeOf", "(internal/reflectlite.Value).Elem", "(internal/reflectlite.Value).Set", "internal/bytealg.IndexByteString"], unfollowed := true, recurses := true, named := ["errors.errorType", "tipstaff/crc.halves"], plainKeys := false, leaving := true, apart := false, laid := [("tipstaff/crc.halves", laid_tipstaff_crc_halves), ("errors.errorType", laid_errors_errorType)] }
def BoundGoodsSaid : Prop := boundGoodsRow.holds Tryz.pinned (OpenSpec.ofChange boundGoodsSpec)

/-- ITS FALSE NEIGHBOUR: 'it returns false'. Refute it at one input. -/
def boundGoodsWrong : ChangeSpec := { name := "boundGoods", fn := fun _ => fun
  | [d1, d2, d3] => { results := [.lit (.bool false)], args := [d1, d2, d3] }
  | _ => none }
def BoundGoodsWrongFalsely : Prop := boundGoodsRow.holds Tryz.pinned (OpenSpec.ofChange boundGoodsWrong)

/- THE SECOND FORM. 'bulk': how many values and letters a reading holds, each counted each time it is reached (what is shared counts as often as it is met; a slice's spare places count too). A statement '..UptoSaid' is the law's where the arguments, and the package variables that the reading takes, are together of bulk at most 1048576: NARROWER than '..Said'. Prove '..Said' where nothing that the law and all that it calls make is longer than what came in: it says more and counts as full. Else prove '..UptoSaid'. A law counts once. -/
mutual
def uptoBulk {H : Type} : DataW H → Nat
  | .lit (.string bytes) => bytes.length + 1
  | .lit _ => 1
  | .nil => 1
  | .ptr d => uptoBulk d + 1
  | .slice elems spare => uptoBulkAll elems + uptoBulkAll spare + 1
  | .agg parts => uptoBulkAll parts + 1
  | .iface _ d => uptoBulk d + 1
  | .map entries => uptoBulkEntries entries + 1
  | .held _ => 1
def uptoBulkAll {H : Type} : List (DataW H) → Nat
  | [] => 0
  | d :: r => uptoBulk d + uptoBulkAll r
def uptoBulkEntries {H : Type} : List (Lit × DataW H) → Nat
  | [] => 0
  | x :: r => uptoBulkEntry x + uptoBulkEntries r
def uptoBulkEntry {H : Type} : Lit × DataW H → Nat
  | (.string bytes, d) => bytes.length + uptoBulk d + 1
  | (_, d) => uptoBulk d + 1
 end
def uptoSmall : (H : Type) → List (DataW H) → Bool := fun _ ds => decide (uptoBulkAll ds ≤ 1048576)
def OpenSpec.upto (s : _root_.Go.ChangeSpec) : _root_.Go.OpenSpec := { _root_.Go.OpenSpec.ofChange s with cond := some uptoSmall }

/-- 'tipstafflaw41.BoundKnown', WHERE WHAT IT READS IS OF BULK AT MOST 1048576: true; the input reads as it did. -/
def boundKnownUptoRow : OpenClaim := { program := "ythjinaagdfnmhaagreatdoor", sum := "ef7b23cd39b67ca0f59acdcc2a075aee80af2003f241b97d7c3bc533d681882c", func := "tipstaff/tipstafflaw41.BoundKnown", spec := "boundKnown", inPlace := ["internal/reflectlite.ValueOf", "(internal/reflectlite.Value).Type", "(internal/reflectlite.Value).IsNil", "internal/reflectlite.TypeOf", "(internal/reflectlite.Value).Elem", "(internal/reflectlite.Value).Set", "internal/bytealg.IndexByteString"], unfollowed := true, recurses := true, named := ["errors.errorType", "tipstaff/crc.halves"], plainKeys := false, leaving := true, apart := false, laid := [("tipstaff/crc.halves", laid_tipstaff_crc_halves), ("errors.errorType", laid_errors_errorType)], narrowed := true }
def BoundKnownUptoSaid : Prop := boundKnownUptoRow.holds Tryz.pinned (OpenSpec.upto boundKnownSpec)

/-- 'tipstafflaw41.BoundGoods', WHERE WHAT IT READS IS OF BULK AT MOST 1048576: true; the input reads as it did. -/
def boundGoodsUptoRow : OpenClaim := { program := "ythjinaagdfnmhaagreatdoor", sum := "ef7b23cd39b67ca0f59acdcc2a075aee80af2003f241b97d7c3bc533d681882c", func := "tipstaff/tipstafflaw41.BoundGoods", spec := "boundGoods", inPlace := ["internal/reflectlite.ValueOf", "(internal/reflectlite.Value).Type", "(internal/reflectlite.Value).IsNil", "internal/reflectlite.TypeOf", "(internal/reflectlite.Value).Elem", "(internal/reflectlite.Value).Set", "internal/bytealg.IndexByteString"], unfollowed := true, recurses := true, named := ["errors.errorType", "tipstaff/crc.halves"], plainKeys := false, leaving := true, apart := false, laid := [("tipstaff/crc.halves", laid_tipstaff_crc_halves), ("errors.errorType", laid_errors_errorType)], narrowed := true }
def BoundGoodsUptoSaid : Prop := boundGoodsUptoRow.holds Tryz.pinned (OpenSpec.upto boundGoodsSpec)

end Rows
end Go.Proofs.YthjinaagdfnmhaaGreatDoor
