/-
  NARROWER THAN 'FOR EVERY INPUT', by the rows' own cells (each row's printed sentence says how): GroupKnown: laid · GroupWords: laid · GroupCopies: laid · GroupSafe: laid · GroupNone: laid.
  DERIVED. THE GIVEN ROWS OF THIS SEAT. 5 by the template 'for every input the law returns true; each argument reads behind the call as it read before'; 0 by the template 'total and deterministic' (their statements: YtnlabiojmdhmiaaGreatDoorTotals.lean).
  GIVEN WITH THE SEED: the statements are not yours to turn. If you find one false, say at which input.
  Laid BY PROGRAM, IN A SANDBOX (cutbox-rows.mjs): the forced cells as the released guide's own fill.sh prints them over the translation 4808f82e95212ac5… (all of the seat's roots in one cut). By AI agents, Wed Nov 11 2026. No macro, syntax, notation, axiom, sorry.
-/
import Derived.Test.YtnlabiojmdhmiaaGreatDoorChecked
import GoSem.Claim
import GoSem.ClaimJoined
import GoSem.ClaimMapViews
import Derived.JoinedTies
import Derived.KernelRfl
namespace Go.Proofs.YtnlabiojmdhmiaaGreatDoor
/- THE CELL 'sum', in the pinned program and in every row, IS THE sha256 OF THE DUMP (.gsa) THAT YtnlabiojmdhmiaaGreatDoorProg.lean LOADS. Nothing in Lean hashes anything: it is a label: what it is worth is what the hold of that sum in a sandbox is worth. -/
noncomputable def Tryz.pinned : Pinned := { name := "ytnlabiojmdhmiaagreatdoor", sum := "4808f82e95212ac592ea605c52521a5e428454138822fec8ea47158f31e86b26", checked := Tryz.checked }
namespace Rows
def none {H : Type} : Left H := { results := [], args := [] }

/- WHAT THE LISTED PACKAGE-LEVEL VARIABLES READ AS WHEN THE CALL BEGINS. Each datum BY PROGRAM (the guide's laid-datum.mjs) off the statement by which the dump's own 'gosem.cut.vars' lays the variable. In a bare row this is a premise. The card (YtnlabiojmdhmiaaGreatDoorCards.lean) ties it to the program's text. -/
def laid_tipstaff_crc_halves {H : Type} : DataW H := .agg [.lit (.int .u8 0), .lit (.int .u8 7), .lit (.int .u8 14), .lit (.int .u8 9), .lit (.int .u8 28), .lit (.int .u8 27), .lit (.int .u8 18), .lit (.int .u8 21), .lit (.int .u8 56), .lit (.int .u8 63), .lit (.int .u8 54), .lit (.int .u8 49), .lit (.int .u8 36), .lit (.int .u8 35), .lit (.int .u8 42), .lit (.int .u8 45)]

/-- 'tipstafflaw37.GroupKnown': WHATEVER THE INPUT: true; the input reads as it did. -/
def groupKnownSpec : ChangeSpec := { name := "groupKnown", fn := fun _ => fun
  | [] => { results := [.lit (.bool true)], args := [] }
  | _ => none }
def groupKnownRow : OpenClaim := { program := "ytnlabiojmdhmiaagreatdoor", sum := "4808f82e95212ac592ea605c52521a5e428454138822fec8ea47158f31e86b26", func := "tipstaff/tipstafflaw37.GroupKnown", spec := "groupKnown", inPlace := ["internal/bytealg.IndexByteString"], unfollowed := true, recurses := true, named := ["tipstaff/crc.halves"], plainKeys := false, apart := false, laid := [("tipstaff/crc.halves", laid_tipstaff_crc_halves)] }
def GroupKnownSaid : Prop := groupKnownRow.holds Tryz.pinned (OpenSpec.ofChange groupKnownSpec)

/-- ITS FALSE NEIGHBOUR: 'it returns false'. Refute it at one input. -/
def groupKnownWrong : ChangeSpec := { name := "groupKnown", fn := fun _ => fun
  | [] => { results := [.lit (.bool false)], args := [] }
  | _ => none }
def GroupKnownWrongFalsely : Prop := groupKnownRow.holds Tryz.pinned (OpenSpec.ofChange groupKnownWrong)

/-- 'tipstafflaw37.GroupWords': WHATEVER THE INPUT: true; the input reads as it did. -/
def groupWordsSpec : ChangeSpec := { name := "groupWords", fn := fun _ => fun
  | [d1, d2] => { results := [.lit (.bool true)], args := [d1, d2] }
  | _ => none }
def groupWordsRow : OpenClaim := { program := "ytnlabiojmdhmiaagreatdoor", sum := "4808f82e95212ac592ea605c52521a5e428454138822fec8ea47158f31e86b26", func := "tipstaff/tipstafflaw37.GroupWords", spec := "groupWords", inPlace := ["internal/bytealg.IndexByteString"], unfollowed := true, recurses := true, named := ["tipstaff/crc.halves"], plainKeys := false, apart := false, laid := [("tipstaff/crc.halves", laid_tipstaff_crc_halves)] }
def GroupWordsSaid : Prop := groupWordsRow.holds Tryz.pinned (OpenSpec.ofChange groupWordsSpec)

/-- ITS FALSE NEIGHBOUR: 'it returns false'. Refute it at one input. -/
def groupWordsWrong : ChangeSpec := { name := "groupWords", fn := fun _ => fun
  | [d1, d2] => { results := [.lit (.bool false)], args := [d1, d2] }
  | _ => none }
def GroupWordsWrongFalsely : Prop := groupWordsRow.holds Tryz.pinned (OpenSpec.ofChange groupWordsWrong)

/-- 'tipstafflaw37.GroupCopies': WHATEVER THE INPUT: true; the input reads as it did. -/
def groupCopiesSpec : ChangeSpec := { name := "groupCopies", fn := fun _ => fun
  | [d1, d2, d3] => { results := [.lit (.bool true)], args := [d1, d2, d3] }
  | _ => none }
def groupCopiesRow : OpenClaim := { program := "ytnlabiojmdhmiaagreatdoor", sum := "4808f82e95212ac592ea605c52521a5e428454138822fec8ea47158f31e86b26", func := "tipstaff/tipstafflaw37.GroupCopies", spec := "groupCopies", inPlace := ["internal/bytealg.IndexByteString"], unfollowed := true, recurses := true, named := ["tipstaff/crc.halves"], plainKeys := false, apart := false, laid := [("tipstaff/crc.halves", laid_tipstaff_crc_halves)] }
def GroupCopiesSaid : Prop := groupCopiesRow.holds Tryz.pinned (OpenSpec.ofChange groupCopiesSpec)

/-- ITS FALSE NEIGHBOUR: 'it returns false'. Refute it at one input. -/
def groupCopiesWrong : ChangeSpec := { name := "groupCopies", fn := fun _ => fun
  | [d1, d2, d3] => { results := [.lit (.bool false)], args := [d1, d2, d3] }
  | _ => none }
def GroupCopiesWrongFalsely : Prop := groupCopiesRow.holds Tryz.pinned (OpenSpec.ofChange groupCopiesWrong)

/-- 'tipstafflaw37.GroupSafe': WHATEVER THE INPUT: true; the input reads as it did. -/
def groupSafeSpec : ChangeSpec := { name := "groupSafe", fn := fun _ => fun
  | [d1, d2] => { results := [.lit (.bool true)], args := [d1, d2] }
  | _ => none }
def groupSafeRow : OpenClaim := { program := "ytnlabiojmdhmiaagreatdoor", sum := "4808f82e95212ac592ea605c52521a5e428454138822fec8ea47158f31e86b26", func := "tipstaff/tipstafflaw37.GroupSafe", spec := "groupSafe", inPlace := ["internal/bytealg.IndexByteString"], unfollowed := true, recurses := true, named := ["tipstaff/crc.halves"], plainKeys := false, apart := false, laid := [("tipstaff/crc.halves", laid_tipstaff_crc_halves)] }
def GroupSafeSaid : Prop := groupSafeRow.holds Tryz.pinned (OpenSpec.ofChange groupSafeSpec)

/-- ITS FALSE NEIGHBOUR: 'it returns false'. Refute it at one input. -/
def groupSafeWrong : ChangeSpec := { name := "groupSafe", fn := fun _ => fun
  | [d1, d2] => { results := [.lit (.bool false)], args := [d1, d2] }
  | _ => none }
def GroupSafeWrongFalsely : Prop := groupSafeRow.holds Tryz.pinned (OpenSpec.ofChange groupSafeWrong)

/-- 'tipstafflaw37.GroupNone': WHATEVER THE INPUT: true; the input reads as it did. -/
def groupNoneSpec : ChangeSpec := { name := "groupNone", fn := fun _ => fun
  | [d] => { results := [.lit (.bool true)], args := [d] }
  | _ => none }
def groupNoneRow : OpenClaim := { program := "ytnlabiojmdhmiaagreatdoor", sum := "4808f82e95212ac592ea605c52521a5e428454138822fec8ea47158f31e86b26", func := "tipstaff/tipstafflaw37.GroupNone", spec := "groupNone", inPlace := ["internal/bytealg.IndexByteString"], unfollowed := true, recurses := true, named := ["tipstaff/crc.halves"], plainKeys := false, apart := false, laid := [("tipstaff/crc.halves", laid_tipstaff_crc_halves)] }
def GroupNoneSaid : Prop := groupNoneRow.holds Tryz.pinned (OpenSpec.ofChange groupNoneSpec)

/-- ITS FALSE NEIGHBOUR: 'it returns false'. Refute it at one input. -/
def groupNoneWrong : ChangeSpec := { name := "groupNone", fn := fun _ => fun
  | [d] => { results := [.lit (.bool false)], args := [d] }
  | _ => none }
def GroupNoneWrongFalsely : Prop := groupNoneRow.holds Tryz.pinned (OpenSpec.ofChange groupNoneWrong)

/- THE SECOND FORM. 'bulk': how many values and letters a reading holds, each counted each time it is reached (what is shared counts as often as it is met; a slice's spare places count too). A statement '..UptoSaid' is the law's where the arguments, and the package variables that the reading takes, are together of bulk at most 1048576: NARROWER than '..Said'. Prove '..Said' where nothing that the law and all that it calls make is longer than what came in: it says more and counts as full. Else prove '..UptoSaid'. A law counts once. -/
mutual
def uptoBulk {H : Type} : DataW H → Nat
  | .lit (.string bytes) => bytes.length + 1
  | .lit _ => 1
  | .nil => 1
  | .ptr d => uptoBulk d + 1
  | .slice elems spare => uptoBulkAll elems + uptoBulkAll spare + 1
  | .agg parts => uptoBulkAll parts + 1
  | .iface _ d => uptoBulk d + 1
  | .map entries => uptoBulkEntries entries + 1
  | .held _ => 1
def uptoBulkAll {H : Type} : List (DataW H) → Nat
  | [] => 0
  | d :: r => uptoBulk d + uptoBulkAll r
def uptoBulkEntries {H : Type} : List (Lit × DataW H) → Nat
  | [] => 0
  | x :: r => uptoBulkEntry x + uptoBulkEntries r
def uptoBulkEntry {H : Type} : Lit × DataW H → Nat
  | (.string bytes, d) => bytes.length + uptoBulk d + 1
  | (_, d) => uptoBulk d + 1
 end
def uptoSmall : (H : Type) → List (DataW H) → Bool := fun _ ds => decide (uptoBulkAll ds ≤ 1048576)
def OpenSpec.upto (s : _root_.Go.ChangeSpec) : _root_.Go.OpenSpec := { _root_.Go.OpenSpec.ofChange s with cond := some uptoSmall }

/-- 'tipstafflaw37.GroupKnown', WHERE WHAT IT READS IS OF BULK AT MOST 1048576: true; the input reads as it did. -/
def groupKnownUptoRow : OpenClaim := { program := "ytnlabiojmdhmiaagreatdoor", sum := "4808f82e95212ac592ea605c52521a5e428454138822fec8ea47158f31e86b26", func := "tipstaff/tipstafflaw37.GroupKnown", spec := "groupKnown", inPlace := ["internal/bytealg.IndexByteString"], unfollowed := true, recurses := true, named := ["tipstaff/crc.halves"], plainKeys := false, apart := false, laid := [("tipstaff/crc.halves", laid_tipstaff_crc_halves)], narrowed := true }
def GroupKnownUptoSaid : Prop := groupKnownUptoRow.holds Tryz.pinned (OpenSpec.upto groupKnownSpec)

/-- 'tipstafflaw37.GroupWords', WHERE WHAT IT READS IS OF BULK AT MOST 1048576: true; the input reads as it did. -/
def groupWordsUptoRow : OpenClaim := { program := "ytnlabiojmdhmiaagreatdoor", sum := "4808f82e95212ac592ea605c52521a5e428454138822fec8ea47158f31e86b26", func := "tipstaff/tipstafflaw37.GroupWords", spec := "groupWords", inPlace := ["internal/bytealg.IndexByteString"], unfollowed := true, recurses := true, named := ["tipstaff/crc.halves"], plainKeys := false, apart := false, laid := [("tipstaff/crc.halves", laid_tipstaff_crc_halves)], narrowed := true }
def GroupWordsUptoSaid : Prop := groupWordsUptoRow.holds Tryz.pinned (OpenSpec.upto groupWordsSpec)

/-- 'tipstafflaw37.GroupCopies', WHERE WHAT IT READS IS OF BULK AT MOST 1048576: true; the input reads as it did. -/
def groupCopiesUptoRow : OpenClaim := { program := "ytnlabiojmdhmiaagreatdoor", sum := "4808f82e95212ac592ea605c52521a5e428454138822fec8ea47158f31e86b26", func := "tipstaff/tipstafflaw37.GroupCopies", spec := "groupCopies", inPlace := ["internal/bytealg.IndexByteString"], unfollowed := true, recurses := true, named := ["tipstaff/crc.halves"], plainKeys := false, apart := false, laid := [("tipstaff/crc.halves", laid_tipstaff_crc_halves)], narrowed := true }
def GroupCopiesUptoSaid : Prop := groupCopiesUptoRow.holds Tryz.pinned (OpenSpec.upto groupCopiesSpec)

/-- 'tipstafflaw37.GroupSafe', WHERE WHAT IT READS IS OF BULK AT MOST 1048576: true; the input reads as it did. -/
def groupSafeUptoRow : OpenClaim := { program := "ytnlabiojmdhmiaagreatdoor", sum := "4808f82e95212ac592ea605c52521a5e428454138822fec8ea47158f31e86b26", func := "tipstaff/tipstafflaw37.GroupSafe", spec := "groupSafe", inPlace := ["internal/bytealg.IndexByteString"], unfollowed := true, recurses := true, named := ["tipstaff/crc.halves"], plainKeys := false, apart := false, laid := [("tipstaff/crc.halves", laid_tipstaff_crc_halves)], narrowed := true }
def GroupSafeUptoSaid : Prop := groupSafeUptoRow.holds Tryz.pinned (OpenSpec.upto groupSafeSpec)

/-- 'tipstafflaw37.GroupNone', WHERE WHAT IT READS IS OF BULK AT MOST 1048576: true; the input reads as it did. -/
def groupNoneUptoRow : OpenClaim := { program := "ytnlabiojmdhmiaagreatdoor", sum := "4808f82e95212ac592ea605c52521a5e428454138822fec8ea47158f31e86b26", func := "tipstaff/tipstafflaw37.GroupNone", spec := "groupNone", inPlace := ["internal/bytealg.IndexByteString"], unfollowed := true, recurses := true, named := ["tipstaff/crc.halves"], plainKeys := false, apart := false, laid := [("tipstaff/crc.halves", laid_tipstaff_crc_halves)], narrowed := true }
def GroupNoneUptoSaid : Prop := groupNoneUptoRow.holds Tryz.pinned (OpenSpec.upto groupNoneSpec)

end Rows
end Go.Proofs.YtnlabiojmdhmiaaGreatDoor
